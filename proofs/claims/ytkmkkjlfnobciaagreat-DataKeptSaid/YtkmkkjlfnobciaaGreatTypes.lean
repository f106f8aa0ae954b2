/- Facts on the types. No condition. -/
import Derived.Test.YtkmkkjlfnobciaaGreatRows
import Derived.Test.YtkmkkjlfnobciaaGreatCoreRet
namespace Go.Proofs.YtkmkkjlfnobciaaGreat
open Go Go.RowKit
@[go_sem] theorem t3_ag : aggT Tryz.prog 3 = false := by kernel_rfl
@[go_sem] theorem t3_sz : szT Tryz.prog 3 = 1 := by kernel_rfl
@[go_sem] theorem t3_in : (Tryz.prog.info? 3).isSome = true := by kernel_rfl
@[go_sem] theorem t3_un : (Tryz.prog.underlying 3).isSome = true := by kernel_rfl
@[go_sem] theorem t3_ze : zeroT Tryz.prog 3 = some [.int .i64 0] := by kernel_rfl
@[go_sem] theorem t3_by : Tryz.prog.bytesOf 3 = 8 := by kernel_rfl
@[go_sem] theorem t4_ag : aggT Tryz.prog 4 = false := by kernel_rfl
@[go_sem] theorem t4_sz : szT Tryz.prog 4 = 1 := by kernel_rfl
@[go_sem] theorem t4_in : (Tryz.prog.info? 4).isSome = true := by kernel_rfl
@[go_sem] theorem t4_un : (Tryz.prog.underlying 4).isSome = true := by kernel_rfl
@[go_sem] theorem t4_ze : zeroT Tryz.prog 4 = some [.bool false] := by kernel_rfl
@[go_sem] theorem t4_by : Tryz.prog.bytesOf 4 = 1 := by kernel_rfl
@[go_sem] theorem t9_ag : aggT Tryz.prog 9 = false := by kernel_rfl
@[go_sem] theorem t9_sz : szT Tryz.prog 9 = 1 := by kernel_rfl
@[go_sem] theorem t9_in : (Tryz.prog.info? 9).isSome = true := by kernel_rfl
@[go_sem] theorem t9_un : (Tryz.prog.underlying 9).isSome = true := by kernel_rfl
@[go_sem] theorem t9_ze : zeroT Tryz.prog 9 = some [.str ⟨#[]⟩] := by kernel_rfl
@[go_sem] theorem t9_by : Tryz.prog.bytesOf 9 = 16 := by kernel_rfl
@[go_sem] theorem t22_ag : aggT Tryz.prog 22 = false := by kernel_rfl
@[go_sem] theorem t22_sz : szT Tryz.prog 22 = 1 := by kernel_rfl
@[go_sem] theorem t22_in : (Tryz.prog.info? 22).isSome = true := by kernel_rfl
@[go_sem] theorem t22_un : (Tryz.prog.underlying 22).isSome = true := by kernel_rfl
@[go_sem] theorem t22_ze : zeroT Tryz.prog 22 = some [.sl none 0] := by kernel_rfl
@[go_sem] theorem t22_by : Tryz.prog.bytesOf 22 = 24 := by kernel_rfl
@[go_sem] theorem t25_ag : aggT Tryz.prog 25 = true := by kernel_rfl
@[go_sem] theorem t25_sz : szT Tryz.prog 25 = 2 := by kernel_rfl
@[go_sem] theorem t25_in : (Tryz.prog.info? 25).isSome = true := by kernel_rfl
@[go_sem] theorem t25_un : (Tryz.prog.underlying 25).isSome = true := by kernel_rfl
@[go_sem] theorem t25_ze : zeroT Tryz.prog 25 = some [.sl none 0, .int .i64 0] := by kernel_rfl
@[go_sem] theorem t25_by : Tryz.prog.bytesOf 25 = 32 := by kernel_rfl
@[go_sem] theorem t25_fo : fieldsOk Tryz.prog 25 = true := by kernel_rfl
@[go_sem] theorem t26_ag : aggT Tryz.prog 26 = false := by kernel_rfl
@[go_sem] theorem t26_sz : szT Tryz.prog 26 = 1 := by kernel_rfl
@[go_sem] theorem t26_in : (Tryz.prog.info? 26).isSome = true := by kernel_rfl
@[go_sem] theorem t26_un : (Tryz.prog.underlying 26).isSome = true := by kernel_rfl
@[go_sem] theorem t26_ze : zeroT Tryz.prog 26 = some [.sl none 0] := by kernel_rfl
@[go_sem] theorem t26_by : Tryz.prog.bytesOf 26 = 24 := by kernel_rfl
@[go_sem] theorem t28_ag : aggT Tryz.prog 28 = false := by kernel_rfl
@[go_sem] theorem t28_sz : szT Tryz.prog 28 = 1 := by kernel_rfl
@[go_sem] theorem t28_in : (Tryz.prog.info? 28).isSome = true := by kernel_rfl
@[go_sem] theorem t28_un : (Tryz.prog.underlying 28).isSome = true := by kernel_rfl
@[go_sem] theorem t28_ze : zeroT Tryz.prog 28 = some [.sl none 0] := by kernel_rfl
@[go_sem] theorem t28_by : Tryz.prog.bytesOf 28 = 24 := by kernel_rfl
@[go_sem] theorem t35_ag : aggT Tryz.prog 35 = false := by kernel_rfl
@[go_sem] theorem t35_sz : szT Tryz.prog 35 = 1 := by kernel_rfl
@[go_sem] theorem t35_in : (Tryz.prog.info? 35).isSome = true := by kernel_rfl
@[go_sem] theorem t35_un : (Tryz.prog.underlying 35).isSome = true := by kernel_rfl
@[go_sem] theorem t35_ze : zeroT Tryz.prog 35 = some [.int .i64 0] := by kernel_rfl
@[go_sem] theorem t35_by : Tryz.prog.bytesOf 35 = 8 := by kernel_rfl
@[go_sem] theorem t57_ag : aggT Tryz.prog 57 = true := by kernel_rfl
@[go_sem] theorem t57_sz : szT Tryz.prog 57 = 3 := by kernel_rfl
@[go_sem] theorem t57_in : (Tryz.prog.info? 57).isSome = true := by kernel_rfl
@[go_sem] theorem t57_un : (Tryz.prog.underlying 57).isSome = true := by kernel_rfl
@[go_sem] theorem t57_ze : zeroT Tryz.prog 57 = some [.int .i64 0, .int .i64 0, .int .i64 0] := by kernel_rfl
@[go_sem] theorem t57_by : Tryz.prog.bytesOf 57 = 24 := by kernel_rfl
@[go_sem] theorem t57_fo : fieldsOk Tryz.prog 57 = true := by kernel_rfl
@[go_sem] theorem t59_ag : aggT Tryz.prog 59 = false := by kernel_rfl
@[go_sem] theorem t59_sz : szT Tryz.prog 59 = 1 := by kernel_rfl
@[go_sem] theorem t59_in : (Tryz.prog.info? 59).isSome = true := by kernel_rfl
@[go_sem] theorem t59_un : (Tryz.prog.underlying 59).isSome = true := by kernel_rfl
@[go_sem] theorem t59_ze : zeroT Tryz.prog 59 = some [.sl none 0] := by kernel_rfl
@[go_sem] theorem t59_by : Tryz.prog.bytesOf 59 = 24 := by kernel_rfl
@[go_sem] theorem t62_ag : aggT Tryz.prog 62 = true := by kernel_rfl
@[go_sem] theorem t62_sz : szT Tryz.prog 62 = 6 := by kernel_rfl
@[go_sem] theorem t62_in : (Tryz.prog.info? 62).isSome = true := by kernel_rfl
@[go_sem] theorem t62_un : (Tryz.prog.underlying 62).isSome = true := by kernel_rfl
@[go_sem] theorem t62_ze : zeroT Tryz.prog 62 = some [.int .i64 0, .int .i64 0, .int .i64 0, .int .i64 0, .int .i64 0, .int .i64 0] := by kernel_rfl
@[go_sem] theorem t62_by : Tryz.prog.bytesOf 62 = 48 := by kernel_rfl
@[go_sem] theorem t62_fo : fieldsOk Tryz.prog 62 = true := by kernel_rfl
@[go_sem] theorem t67_ag : aggT Tryz.prog 67 = true := by kernel_rfl
@[go_sem] theorem t67_sz : szT Tryz.prog 67 = 2 := by kernel_rfl
@[go_sem] theorem t67_in : (Tryz.prog.info? 67).isSome = true := by kernel_rfl
@[go_sem] theorem t67_un : (Tryz.prog.underlying 67).isSome = true := by kernel_rfl
@[go_sem] theorem t67_ze : zeroT Tryz.prog 67 = some [.int .i64 0, .int .i64 0] := by kernel_rfl
@[go_sem] theorem t67_by : Tryz.prog.bytesOf 67 = 16 := by kernel_rfl
@[go_sem] theorem t67_fo : fieldsOk Tryz.prog 67 = true := by kernel_rfl
@[go_sem] theorem t75_ag : aggT Tryz.prog 75 = true := by kernel_rfl
@[go_sem] theorem t75_sz : szT Tryz.prog 75 = 2 := by kernel_rfl
@[go_sem] theorem t75_in : (Tryz.prog.info? 75).isSome = true := by kernel_rfl
@[go_sem] theorem t75_un : (Tryz.prog.underlying 75).isSome = true := by kernel_rfl
@[go_sem] theorem t75_ze : zeroT Tryz.prog 75 = some [.int .i64 0, .int .i64 0] := by kernel_rfl
@[go_sem] theorem t75_by : Tryz.prog.bytesOf 75 = 16 := by kernel_rfl
@[go_sem] theorem t75_fo : fieldsOk Tryz.prog 75 = true := by kernel_rfl
@[go_sem] theorem t90_ag : aggT Tryz.prog 90 = true := by kernel_rfl
@[go_sem] theorem t90_sz : szT Tryz.prog 90 = 2 := by kernel_rfl
@[go_sem] theorem t90_in : (Tryz.prog.info? 90).isSome = true := by kernel_rfl
@[go_sem] theorem t90_un : (Tryz.prog.underlying 90).isSome = true := by kernel_rfl
@[go_sem] theorem t90_ze : zeroT Tryz.prog 90 = some [.int .i64 0, .int .i64 0] := by kernel_rfl
@[go_sem] theorem t90_by : Tryz.prog.bytesOf 90 = 16 := by kernel_rfl
@[go_sem] theorem t90_fo : fieldsOk Tryz.prog 90 = true := by kernel_rfl
@[go_sem] theorem t94_ag : aggT Tryz.prog 94 = true := by kernel_rfl
@[go_sem] theorem t94_sz : szT Tryz.prog 94 = 6 := by kernel_rfl
@[go_sem] theorem t94_in : (Tryz.prog.info? 94).isSome = true := by kernel_rfl
@[go_sem] theorem t94_un : (Tryz.prog.underlying 94).isSome = true := by kernel_rfl
@[go_sem] theorem t94_ze : zeroT Tryz.prog 94 = some [.str ⟨#[]⟩, .str ⟨#[]⟩, .int .i64 0, .int .i64 0, .int .i64 0, .int .i64 0] := by kernel_rfl
@[go_sem] theorem t94_by : Tryz.prog.bytesOf 94 = 64 := by kernel_rfl
@[go_sem] theorem t94_fo : fieldsOk Tryz.prog 94 = true := by kernel_rfl
@[go_sem] theorem t157_ag : aggT Tryz.prog 157 = false := by kernel_rfl
@[go_sem] theorem t157_sz : szT Tryz.prog 157 = 1 := by kernel_rfl
@[go_sem] theorem t157_in : (Tryz.prog.info? 157).isSome = true := by kernel_rfl
@[go_sem] theorem t157_un : (Tryz.prog.underlying 157).isSome = true := by kernel_rfl
@[go_sem] theorem t157_ze : zeroT Tryz.prog 157 = some [.int .u64 0] := by kernel_rfl
@[go_sem] theorem t157_by : Tryz.prog.bytesOf 157 = 8 := by kernel_rfl
@[go_sem] theorem t25_f0 : fieldT Tryz.prog 25 0 = some (0, 1) := by kernel_rfl
@[go_sem] theorem t25_f1 : fieldT Tryz.prog 25 1 = some (1, 1) := by kernel_rfl
@[go_sem] theorem t57_f0 : fieldT Tryz.prog 57 0 = some (0, 1) := by kernel_rfl
@[go_sem] theorem t57_f1 : fieldT Tryz.prog 57 1 = some (1, 1) := by kernel_rfl
@[go_sem] theorem t57_f2 : fieldT Tryz.prog 57 2 = some (2, 1) := by kernel_rfl
@[go_sem] theorem t62_f0 : fieldT Tryz.prog 62 0 = some (0, 1) := by kernel_rfl
@[go_sem] theorem t62_f1 : fieldT Tryz.prog 62 1 = some (1, 1) := by kernel_rfl
@[go_sem] theorem t62_f2 : fieldT Tryz.prog 62 2 = some (2, 1) := by kernel_rfl
@[go_sem] theorem t62_f3 : fieldT Tryz.prog 62 3 = some (3, 1) := by kernel_rfl
@[go_sem] theorem t62_f4 : fieldT Tryz.prog 62 4 = some (4, 1) := by kernel_rfl
@[go_sem] theorem t62_f5 : fieldT Tryz.prog 62 5 = some (5, 1) := by kernel_rfl
@[go_sem] theorem t67_f0 : fieldT Tryz.prog 67 0 = some (0, 1) := by kernel_rfl
@[go_sem] theorem t67_f1 : fieldT Tryz.prog 67 1 = some (1, 1) := by kernel_rfl
@[go_sem] theorem t75_f0 : fieldT Tryz.prog 75 0 = some (0, 1) := by kernel_rfl
@[go_sem] theorem t75_f1 : fieldT Tryz.prog 75 1 = some (1, 1) := by kernel_rfl
@[go_sem] theorem t90_f0 : fieldT Tryz.prog 90 0 = some (0, 1) := by kernel_rfl
@[go_sem] theorem t90_f1 : fieldT Tryz.prog 90 1 = some (1, 1) := by kernel_rfl
@[go_sem] theorem t94_f0 : fieldT Tryz.prog 94 0 = some (0, 1) := by kernel_rfl
@[go_sem] theorem t94_f1 : fieldT Tryz.prog 94 1 = some (1, 1) := by kernel_rfl
@[go_sem] theorem t94_f2 : fieldT Tryz.prog 94 2 = some (2, 2) := by kernel_rfl
@[go_sem] theorem t94_f3 : fieldT Tryz.prog 94 3 = some (4, 1) := by kernel_rfl
@[go_sem] theorem t94_f4 : fieldT Tryz.prog 94 4 = some (5, 1) := by kernel_rfl
@[go_sem] theorem t9_st : strT Tryz.prog 9 = true := by kernel_rfl
@[go_sem] theorem t9_el : elemT Tryz.prog 9 = none := by kernel_rfl
@[go_sem] theorem t9_us : Tryz.prog.underlying 9 = some .string := by kernel_rfl
@[go_sem] theorem t22_el : elemT Tryz.prog 22 = some 3 := by kernel_rfl
@[go_sem] theorem t22_st : strT Tryz.prog 22 = false := by kernel_rfl
@[go_sem] theorem t26_el : elemT Tryz.prog 26 = some 90 := by kernel_rfl
@[go_sem] theorem t26_st : strT Tryz.prog 26 = false := by kernel_rfl
@[go_sem] theorem t28_el : elemT Tryz.prog 28 = some 94 := by kernel_rfl
@[go_sem] theorem t28_st : strT Tryz.prog 28 = false := by kernel_rfl
@[go_sem] theorem t31_el : elemT Tryz.prog 31 = some 57 := by kernel_rfl
@[go_sem] theorem t31_st : strT Tryz.prog 31 = false := by kernel_rfl
@[go_sem] theorem t40_el : elemT Tryz.prog 40 = some 59 := by kernel_rfl
@[go_sem] theorem t40_st : strT Tryz.prog 40 = false := by kernel_rfl
@[go_sem] theorem t59_el : elemT Tryz.prog 59 = some 62 := by kernel_rfl
@[go_sem] theorem t59_st : strT Tryz.prog 59 = false := by kernel_rfl
@[go_sem] theorem t92_el : elemT Tryz.prog 92 = some 9 := by kernel_rfl
@[go_sem] theorem t92_st : strT Tryz.prog 92 = false := by kernel_rfl
@[go_sem] theorem t107_el : elemT Tryz.prog 107 = some 35 := by kernel_rfl
@[go_sem] theorem t107_st : strT Tryz.prog 107 = false := by kernel_rfl
@[go_sem] theorem t3_ik : intK Tryz.prog 3 = some .i64 := by kernel_rfl
@[go_sem] theorem t5_un : (Tryz.prog.underlying 5).isSome = true := by kernel_rfl
@[go_sem] theorem t5_ik : intK Tryz.prog 5 = some .u8 := by kernel_rfl
@[go_sem] theorem t145_un : (Tryz.prog.underlying 145).isSome = true := by kernel_rfl
@[go_sem] theorem t145_ik : intK Tryz.prog 145 = some .u64 := by kernel_rfl
@[go_sem] theorem t154_un : (Tryz.prog.underlying 154).isSome = true := by kernel_rfl
@[go_sem] theorem t154_ik : intK Tryz.prog 154 = some .u32 := by kernel_rfl
@[go_sem] theorem t156_un : (Tryz.prog.underlying 156).isSome = true := by kernel_rfl
@[go_sem] theorem t156_ik : intK Tryz.prog 156 = some .u64 := by kernel_rfl
@[go_sem] theorem t157_ik : intK Tryz.prog 157 = some .u64 := by kernel_rfl
@[go_sem] theorem t67_k0 : fieldK Tryz.prog 67 0 = some (0, 1, false) := by kernel_rfl
@[go_sem] theorem t67_k1 : fieldK Tryz.prog 67 1 = some (1, 1, false) := by kernel_rfl
@[go_sem] theorem t4_kd : kindT Tryz.prog 4 = 1 := by kernel_rfl
@[go_sem] theorem t31_kd : kindT Tryz.prog 31 = 3 := by kernel_rfl
@[go_sem] theorem t57_fk : fieldsK Tryz.prog 57 = some [(0, 1), (1, 1), (2, 1)] := by kernel_rfl
@[go_sem] theorem t62_fk : fieldsK Tryz.prog 62 = some [(0, 1), (1, 1), (2, 1), (3, 1), (4, 1), (5, 1)] := by kernel_rfl
@[go_sem] theorem t75_fk : fieldsK Tryz.prog 75 = some [(0, 1), (1, 1)] := by kernel_rfl
@[go_sem] theorem f2_en : entersB Tryz.prog 2 = true := by kernel_rfl
@[go_sem] theorem f2_rs : Tryz.f2.results.toList = [] := by kernel_rfl
@[go_sem] theorem f2_nt : Tryz.f2.ntmps = 1 := by kernel_rfl
@[go_sem] theorem f3_en : entersB Tryz.prog 3 = true := by kernel_rfl
@[go_sem] theorem f3_rs : Tryz.f3.results.toList = [.tmp 2] := by kernel_rfl
@[go_sem] theorem f3_nt : Tryz.f3.ntmps = 165 := by kernel_rfl
@[go_sem] theorem f4_en : entersB Tryz.prog 4 = true := by kernel_rfl
@[go_sem] theorem f4_rs : Tryz.f4.results.toList = [.tmp 2] := by kernel_rfl
@[go_sem] theorem f4_nt : Tryz.f4.ntmps = 248 := by kernel_rfl
@[go_sem] theorem f5_en : entersB Tryz.prog 5 = true := by kernel_rfl
@[go_sem] theorem f5_rs : Tryz.f5.results.toList = [.tmp 2] := by kernel_rfl
@[go_sem] theorem f5_nt : Tryz.f5.ntmps = 24 := by kernel_rfl
@[go_sem] theorem f6_en : entersB Tryz.prog 6 = true := by kernel_rfl
@[go_sem] theorem f6_rs : Tryz.f6.results.toList = [.tmp 2] := by kernel_rfl
@[go_sem] theorem f6_nt : Tryz.f6.ntmps = 71 := by kernel_rfl
@[go_sem] theorem f7_en : entersB Tryz.prog 7 = true := by kernel_rfl
@[go_sem] theorem f7_rs : Tryz.f7.results.toList = [.tmp 4] := by kernel_rfl
@[go_sem] theorem f7_nt : Tryz.f7.ntmps = 12 := by kernel_rfl
@[go_sem] theorem f8_en : entersB Tryz.prog 8 = true := by kernel_rfl
@[go_sem] theorem f8_rs : Tryz.f8.results.toList = [.tmp 4] := by kernel_rfl
@[go_sem] theorem f8_nt : Tryz.f8.ntmps = 25 := by kernel_rfl
@[go_sem] theorem f9_en : entersB Tryz.prog 9 = true := by kernel_rfl
@[go_sem] theorem f9_rs : Tryz.f9.results.toList = [.tmp 4] := by kernel_rfl
@[go_sem] theorem f9_nt : Tryz.f9.ntmps = 12 := by kernel_rfl
@[go_sem] theorem f10_en : entersB Tryz.prog 10 = true := by kernel_rfl
@[go_sem] theorem f10_rs : Tryz.f10.results.toList = [.tmp 2] := by kernel_rfl
@[go_sem] theorem f10_nt : Tryz.f10.ntmps = 6 := by kernel_rfl
@[go_sem] theorem f11_en : entersB Tryz.prog 11 = true := by kernel_rfl
@[go_sem] theorem f11_rs : Tryz.f11.results.toList = [.tmp 8, .tmp 9] := by kernel_rfl
@[go_sem] theorem f11_nt : Tryz.f11.ntmps = 28 := by kernel_rfl
@[go_sem] theorem f12_en : entersB Tryz.prog 12 = true := by kernel_rfl
@[go_sem] theorem f12_rs : Tryz.f12.results.toList = [.tmp 10, .tmp 11] := by kernel_rfl
@[go_sem] theorem f12_nt : Tryz.f12.ntmps = 48 := by kernel_rfl
@[go_sem] theorem f13_en : entersB Tryz.prog 13 = true := by kernel_rfl
@[go_sem] theorem f13_rs : Tryz.f13.results.toList = [.tmp 10, .tmp 11, .tmp 12] := by kernel_rfl
@[go_sem] theorem f13_nt : Tryz.f13.ntmps = 64 := by kernel_rfl
@[go_sem] theorem f14_en : entersB Tryz.prog 14 = true := by kernel_rfl
@[go_sem] theorem f14_rs : Tryz.f14.results.toList = [.tmp 2] := by kernel_rfl
@[go_sem] theorem f14_nt : Tryz.f14.ntmps = 15 := by kernel_rfl
@[go_sem] theorem f15_en : entersB Tryz.prog 15 = true := by kernel_rfl
@[go_sem] theorem f15_rs : Tryz.f15.results.toList = [.tmp 2] := by kernel_rfl
@[go_sem] theorem f15_nt : Tryz.f15.ntmps = 53 := by kernel_rfl
@[go_sem] theorem f16_en : entersB Tryz.prog 16 = true := by kernel_rfl
@[go_sem] theorem f16_rs : Tryz.f16.results.toList = [.tmp 2] := by kernel_rfl
@[go_sem] theorem f16_nt : Tryz.f16.ntmps = 7 := by kernel_rfl
@[go_sem] theorem f17_en : entersB Tryz.prog 17 = true := by kernel_rfl
@[go_sem] theorem f17_rs : Tryz.f17.results.toList = [.tmp 4] := by kernel_rfl
@[go_sem] theorem f17_nt : Tryz.f17.ntmps = 18 := by kernel_rfl
@[go_sem] theorem f18_en : entersB Tryz.prog 18 = true := by kernel_rfl
@[go_sem] theorem f18_rs : Tryz.f18.results.toList = [.tmp 6] := by kernel_rfl
@[go_sem] theorem f18_nt : Tryz.f18.ntmps = 15 := by kernel_rfl
@[go_sem] theorem f19_en : entersB Tryz.prog 19 = true := by kernel_rfl
@[go_sem] theorem f19_rs : Tryz.f19.results.toList = [.tmp 2] := by kernel_rfl
@[go_sem] theorem f19_nt : Tryz.f19.ntmps = 35 := by kernel_rfl
@[go_sem] theorem f20_en : entersB Tryz.prog 20 = true := by kernel_rfl
@[go_sem] theorem f20_rs : Tryz.f20.results.toList = [.tmp 2] := by kernel_rfl
@[go_sem] theorem f20_nt : Tryz.f20.ntmps = 6 := by kernel_rfl
@[go_sem] theorem f21_en : entersB Tryz.prog 21 = true := by kernel_rfl
@[go_sem] theorem f21_rs : Tryz.f21.results.toList = [.tmp 10] := by kernel_rfl
@[go_sem] theorem f21_nt : Tryz.f21.ntmps = 33 := by kernel_rfl
@[go_sem] theorem f22_en : entersB Tryz.prog 22 = true := by kernel_rfl
@[go_sem] theorem f22_rs : Tryz.f22.results.toList = [.tmp 10, .tmp 11] := by kernel_rfl
@[go_sem] theorem f22_nt : Tryz.f22.ntmps = 43 := by kernel_rfl
@[go_sem] theorem f23_en : entersB Tryz.prog 23 = true := by kernel_rfl
@[go_sem] theorem f23_rs : Tryz.f23.results.toList = [.tmp 2] := by kernel_rfl
@[go_sem] theorem f23_nt : Tryz.f23.ntmps = 73 := by kernel_rfl
@[go_sem] theorem f24_en : entersB Tryz.prog 24 = true := by kernel_rfl
@[go_sem] theorem f24_rs : Tryz.f24.results.toList = [.tmp 8] := by kernel_rfl
@[go_sem] theorem f24_nt : Tryz.f24.ntmps = 17 := by kernel_rfl
@[go_sem] theorem f25_en : entersB Tryz.prog 25 = true := by kernel_rfl
@[go_sem] theorem f25_rs : Tryz.f25.results.toList = [.tmp 4] := by kernel_rfl
@[go_sem] theorem f25_nt : Tryz.f25.ntmps = 26 := by kernel_rfl
@[go_sem] theorem f26_en : entersB Tryz.prog 26 = true := by kernel_rfl
@[go_sem] theorem f26_rs : Tryz.f26.results.toList = [.tmp 4] := by kernel_rfl
@[go_sem] theorem f26_nt : Tryz.f26.ntmps = 26 := by kernel_rfl
@[go_sem] theorem f27_en : entersB Tryz.prog 27 = true := by kernel_rfl
@[go_sem] theorem f27_rs : Tryz.f27.results.toList = [.tmp 6] := by kernel_rfl
@[go_sem] theorem f27_nt : Tryz.f27.ntmps = 32 := by kernel_rfl
@[go_sem] theorem f28_en : entersB Tryz.prog 28 = true := by kernel_rfl
@[go_sem] theorem f28_rs : Tryz.f28.results.toList = [.tmp 4] := by kernel_rfl
@[go_sem] theorem f28_nt : Tryz.f28.ntmps = 26 := by kernel_rfl
@[go_sem] theorem f29_en : entersB Tryz.prog 29 = true := by kernel_rfl
@[go_sem] theorem f29_rs : Tryz.f29.results.toList = [.tmp 0] := by kernel_rfl
@[go_sem] theorem f29_nt : Tryz.f29.ntmps = 23 := by kernel_rfl
@[go_sem] theorem f30_en : entersB Tryz.prog 30 = true := by kernel_rfl
@[go_sem] theorem f30_rs : Tryz.f30.results.toList = [.tmp 2] := by kernel_rfl
@[go_sem] theorem f30_nt : Tryz.f30.ntmps = 6 := by kernel_rfl
@[go_sem] theorem f31_en : entersB Tryz.prog 31 = true := by kernel_rfl
@[go_sem] theorem f31_rs : Tryz.f31.results.toList = [.tmp 6] := by kernel_rfl
@[go_sem] theorem f31_nt : Tryz.f31.ntmps = 19 := by kernel_rfl
@[go_sem] theorem f32_en : entersB Tryz.prog 32 = true := by kernel_rfl
@[go_sem] theorem f32_rs : Tryz.f32.results.toList = [.tmp 2] := by kernel_rfl
@[go_sem] theorem f32_nt : Tryz.f32.ntmps = 6 := by kernel_rfl
@[go_sem] theorem f33_en : entersB Tryz.prog 33 = true := by kernel_rfl
@[go_sem] theorem f33_rs : Tryz.f33.results.toList = [.tmp 4] := by kernel_rfl
@[go_sem] theorem f33_nt : Tryz.f33.ntmps = 9 := by kernel_rfl
@[go_sem] theorem f34_en : entersB Tryz.prog 34 = true := by kernel_rfl
@[go_sem] theorem f34_rs : Tryz.f34.results.toList = [.tmp 4] := by kernel_rfl
@[go_sem] theorem f34_nt : Tryz.f34.ntmps = 81 := by kernel_rfl
@[go_sem] theorem f35_en : entersB Tryz.prog 35 = true := by kernel_rfl
@[go_sem] theorem f35_rs : Tryz.f35.results.toList = [.tmp 12, .tmp 13, .tmp 14] := by kernel_rfl
@[go_sem] theorem f35_nt : Tryz.f35.ntmps = 109 := by kernel_rfl
@[go_sem] theorem f36_en : entersB Tryz.prog 36 = true := by kernel_rfl
@[go_sem] theorem f36_rs : Tryz.f36.results.toList = [.tmp 6, .tmp 7, .tmp 8] := by kernel_rfl
@[go_sem] theorem f36_nt : Tryz.f36.ntmps = 42 := by kernel_rfl
@[go_sem] theorem f37_en : entersB Tryz.prog 37 = true := by kernel_rfl
@[go_sem] theorem f37_rs : Tryz.f37.results.toList = [.cell 6 75, .tmp 7, .tmp 8] := by kernel_rfl
@[go_sem] theorem f37_nt : Tryz.f37.ntmps = 31 := by kernel_rfl
@[go_sem] theorem f38_en : entersB Tryz.prog 38 = true := by kernel_rfl
@[go_sem] theorem f38_rs : Tryz.f38.results.toList = [.tmp 8, .tmp 9, .tmp 10] := by kernel_rfl
@[go_sem] theorem f38_nt : Tryz.f38.ntmps = 46 := by kernel_rfl
@[go_sem] theorem f39_en : entersB Tryz.prog 39 = true := by kernel_rfl
@[go_sem] theorem f39_rs : Tryz.f39.results.toList = [.tmp 6] := by kernel_rfl
@[go_sem] theorem f39_nt : Tryz.f39.ntmps = 46 := by kernel_rfl
@[go_sem] theorem f40_en : entersB Tryz.prog 40 = true := by kernel_rfl
@[go_sem] theorem f40_rs : Tryz.f40.results.toList = [.tmp 4] := by kernel_rfl
@[go_sem] theorem f40_nt : Tryz.f40.ntmps = 44 := by kernel_rfl
@[go_sem] theorem f41_en : entersB Tryz.prog 41 = true := by kernel_rfl
@[go_sem] theorem f41_rs : Tryz.f41.results.toList = [.tmp 4] := by kernel_rfl
@[go_sem] theorem f41_nt : Tryz.f41.ntmps = 28 := by kernel_rfl
@[go_sem] theorem f42_en : entersB Tryz.prog 42 = true := by kernel_rfl
@[go_sem] theorem f42_rs : Tryz.f42.results.toList = [.cell 12 3, .cell 13 4] := by kernel_rfl
@[go_sem] theorem f42_nt : Tryz.f42.ntmps = 160 := by kernel_rfl
@[go_sem] theorem f43_en : entersB Tryz.prog 43 = true := by kernel_rfl
@[go_sem] theorem f43_rs : Tryz.f43.results.toList = [.tmp 4, .tmp 5] := by kernel_rfl
@[go_sem] theorem f43_nt : Tryz.f43.ntmps = 39 := by kernel_rfl
@[go_sem] theorem f44_en : entersB Tryz.prog 44 = true := by kernel_rfl
@[go_sem] theorem f44_rs : Tryz.f44.results.toList = [.cell 4 75, .tmp 5] := by kernel_rfl
@[go_sem] theorem f44_nt : Tryz.f44.ntmps = 28 := by kernel_rfl
@[go_sem] theorem f45_en : entersB Tryz.prog 45 = true := by kernel_rfl
@[go_sem] theorem f45_rs : Tryz.f45.results.toList = [.tmp 8, .tmp 9] := by kernel_rfl
@[go_sem] theorem f45_nt : Tryz.f45.ntmps = 56 := by kernel_rfl
@[go_sem] theorem f46_en : entersB Tryz.prog 46 = true := by kernel_rfl
@[go_sem] theorem f46_rs : Tryz.f46.results.toList = [.tmp 2] := by kernel_rfl
@[go_sem] theorem f46_nt : Tryz.f46.ntmps = 37 := by kernel_rfl
@[go_sem] theorem f47_en : entersB Tryz.prog 47 = true := by kernel_rfl
@[go_sem] theorem f47_rs : Tryz.f47.results.toList = [.tmp 4] := by kernel_rfl
@[go_sem] theorem f47_nt : Tryz.f47.ntmps = 64 := by kernel_rfl
@[go_sem] theorem f48_en : entersB Tryz.prog 48 = true := by kernel_rfl
@[go_sem] theorem f48_rs : Tryz.f48.results.toList = [.tmp 6] := by kernel_rfl
@[go_sem] theorem f48_nt : Tryz.f48.ntmps = 22 := by kernel_rfl
@[go_sem] theorem f49_en : entersB Tryz.prog 49 = true := by kernel_rfl
@[go_sem] theorem f49_rs : Tryz.f49.results.toList = [.tmp 4] := by kernel_rfl
@[go_sem] theorem f49_nt : Tryz.f49.ntmps = 39 := by kernel_rfl
@[go_sem] theorem f50_en : entersB Tryz.prog 50 = true := by kernel_rfl
@[go_sem] theorem f50_rs : Tryz.f50.results.toList = [.cell 2 57] := by kernel_rfl
@[go_sem] theorem f50_nt : Tryz.f50.ntmps = 13 := by kernel_rfl
@[go_sem] theorem f51_en : entersB Tryz.prog 51 = true := by kernel_rfl
@[go_sem] theorem f51_rs : Tryz.f51.results.toList = [.tmp 2] := by kernel_rfl
@[go_sem] theorem f51_nt : Tryz.f51.ntmps = 15 := by kernel_rfl
@[go_sem] theorem f52_en : entersB Tryz.prog 52 = true := by kernel_rfl
@[go_sem] theorem f52_rs : Tryz.f52.results.toList = [.tmp 2] := by kernel_rfl
@[go_sem] theorem f52_nt : Tryz.f52.ntmps = 6 := by kernel_rfl
@[go_sem] theorem f53_en : entersB Tryz.prog 53 = true := by kernel_rfl
@[go_sem] theorem f53_rs : Tryz.f53.results.toList = [.tmp 4] := by kernel_rfl
@[go_sem] theorem f53_nt : Tryz.f53.ntmps = 18 := by kernel_rfl
@[go_sem] theorem f54_en : entersB Tryz.prog 54 = true := by kernel_rfl
@[go_sem] theorem f54_rs : Tryz.f54.results.toList = [.tmp 4] := by kernel_rfl
@[go_sem] theorem f54_nt : Tryz.f54.ntmps = 9 := by kernel_rfl
@[go_sem] theorem f55_en : entersB Tryz.prog 55 = true := by kernel_rfl
@[go_sem] theorem f55_rs : Tryz.f55.results.toList = [.tmp 4] := by kernel_rfl
@[go_sem] theorem f55_nt : Tryz.f55.ntmps = 29 := by kernel_rfl
@[go_sem] theorem f56_en : entersB Tryz.prog 56 = true := by kernel_rfl
@[go_sem] theorem f56_rs : Tryz.f56.results.toList = [.tmp 4] := by kernel_rfl
@[go_sem] theorem f56_nt : Tryz.f56.ntmps = 21 := by kernel_rfl
@[go_sem] theorem f57_en : entersB Tryz.prog 57 = true := by kernel_rfl
@[go_sem] theorem f57_rs : Tryz.f57.results.toList = [.tmp 4] := by kernel_rfl
@[go_sem] theorem f57_nt : Tryz.f57.ntmps = 15 := by kernel_rfl
@[go_sem] theorem f58_en : entersB Tryz.prog 58 = true := by kernel_rfl
@[go_sem] theorem f58_rs : Tryz.f58.results.toList = [.tmp 6] := by kernel_rfl
@[go_sem] theorem f58_nt : Tryz.f58.ntmps = 15 := by kernel_rfl
@[go_sem] theorem f59_en : entersB Tryz.prog 59 = true := by kernel_rfl
@[go_sem] theorem f59_rs : Tryz.f59.results.toList = [.tmp 8] := by kernel_rfl
@[go_sem] theorem f59_nt : Tryz.f59.ntmps = 17 := by kernel_rfl
@[go_sem] theorem f60_en : entersB Tryz.prog 60 = true := by kernel_rfl
@[go_sem] theorem f60_rs : Tryz.f60.results.toList = [.tmp 2] := by kernel_rfl
@[go_sem] theorem f60_nt : Tryz.f60.ntmps = 35 := by kernel_rfl
@[go_sem] theorem f61_en : entersB Tryz.prog 61 = true := by kernel_rfl
@[go_sem] theorem f61_rs : Tryz.f61.results.toList = [.tmp 2] := by kernel_rfl
@[go_sem] theorem f61_nt : Tryz.f61.ntmps = 6 := by kernel_rfl
@[go_sem] theorem f62_en : entersB Tryz.prog 62 = true := by kernel_rfl
@[go_sem] theorem f62_rs : Tryz.f62.results.toList = [.tmp 4] := by kernel_rfl
@[go_sem] theorem f62_nt : Tryz.f62.ntmps = 42 := by kernel_rfl
@[go_sem] theorem f63_en : entersB Tryz.prog 63 = true := by kernel_rfl
@[go_sem] theorem f63_rs : Tryz.f63.results.toList = [.tmp 2] := by kernel_rfl
@[go_sem] theorem f63_nt : Tryz.f63.ntmps = 8 := by kernel_rfl
@[go_sem] theorem f64_en : entersB Tryz.prog 64 = true := by kernel_rfl
@[go_sem] theorem f64_rs : Tryz.f64.results.toList = [.tmp 3] := by kernel_rfl
@[go_sem] theorem f64_nt : Tryz.f64.ntmps = 8 := by kernel_rfl
@[go_sem] theorem f65_en : entersB Tryz.prog 65 = true := by kernel_rfl
@[go_sem] theorem f65_rs : Tryz.f65.results.toList = [.tmp 4] := by kernel_rfl
@[go_sem] theorem f65_nt : Tryz.f65.ntmps = 39 := by kernel_rfl
@[go_sem] theorem f66_en : entersB Tryz.prog 66 = true := by kernel_rfl
@[go_sem] theorem f66_rs : Tryz.f66.results.toList = [.tmp 4] := by kernel_rfl
@[go_sem] theorem f66_nt : Tryz.f66.ntmps = 42 := by kernel_rfl
@[go_sem] theorem f67_en : entersB Tryz.prog 67 = true := by kernel_rfl
@[go_sem] theorem f67_rs : Tryz.f67.results.toList = [.tmp 5] := by kernel_rfl
@[go_sem] theorem f67_nt : Tryz.f67.ntmps = 13 := by kernel_rfl
@[go_sem] theorem f68_en : entersB Tryz.prog 68 = true := by kernel_rfl
@[go_sem] theorem f68_rs : Tryz.f68.results.toList = [.tmp 5] := by kernel_rfl
@[go_sem] theorem f68_nt : Tryz.f68.ntmps = 15 := by kernel_rfl
@[go_sem] theorem f69_en : entersB Tryz.prog 69 = true := by kernel_rfl
@[go_sem] theorem f69_rs : Tryz.f69.results.toList = [.tmp 2] := by kernel_rfl
@[go_sem] theorem f69_nt : Tryz.f69.ntmps = 15 := by kernel_rfl
@[go_sem] theorem f70_en : entersB Tryz.prog 70 = true := by kernel_rfl
@[go_sem] theorem f70_rs : Tryz.f70.results.toList = [.tmp 2] := by kernel_rfl
@[go_sem] theorem f70_nt : Tryz.f70.ntmps = 18 := by kernel_rfl
@[go_sem] theorem f71_en : entersB Tryz.prog 71 = true := by kernel_rfl
@[go_sem] theorem f71_rs : Tryz.f71.results.toList = [.tmp 4] := by kernel_rfl
@[go_sem] theorem f71_nt : Tryz.f71.ntmps = 7 := by kernel_rfl
@[go_sem] theorem f72_en : entersB Tryz.prog 72 = true := by kernel_rfl
@[go_sem] theorem f72_rs : Tryz.f72.results.toList = [.tmp 2] := by kernel_rfl
@[go_sem] theorem f72_nt : Tryz.f72.ntmps = 5 := by kernel_rfl
@[go_sem] theorem f73_en : entersB Tryz.prog 73 = true := by kernel_rfl
@[go_sem] theorem f73_rs : Tryz.f73.results.toList = [.tmp 2] := by kernel_rfl
@[go_sem] theorem f73_nt : Tryz.f73.ntmps = 84 := by kernel_rfl
@[go_sem] theorem f74_en : entersB Tryz.prog 74 = true := by kernel_rfl
@[go_sem] theorem f74_rs : Tryz.f74.results.toList = [.tmp 2] := by kernel_rfl
@[go_sem] theorem f74_nt : Tryz.f74.ntmps = 27 := by kernel_rfl
@[go_sem] theorem f75_en : entersB Tryz.prog 75 = true := by kernel_rfl
@[go_sem] theorem f75_rs : Tryz.f75.results.toList = [.tmp 10] := by kernel_rfl
@[go_sem] theorem f75_nt : Tryz.f75.ntmps = 67 := by kernel_rfl
@[go_sem] theorem f76_en : entersB Tryz.prog 76 = true := by kernel_rfl
@[go_sem] theorem f76_rs : Tryz.f76.results.toList = [.tmp 3] := by kernel_rfl
@[go_sem] theorem f76_nt : Tryz.f76.ntmps = 8 := by kernel_rfl
@[go_sem] theorem f77_en : entersB Tryz.prog 77 = true := by kernel_rfl
@[go_sem] theorem f77_rs : Tryz.f77.results.toList = [.tmp 6] := by kernel_rfl
@[go_sem] theorem f77_nt : Tryz.f77.ntmps = 17 := by kernel_rfl
@[go_sem] theorem f78_en : entersB Tryz.prog 78 = true := by kernel_rfl
@[go_sem] theorem f78_rs : Tryz.f78.results.toList = [.tmp 4] := by kernel_rfl
@[go_sem] theorem f78_nt : Tryz.f78.ntmps = 90 := by kernel_rfl
@[go_sem] theorem f79_en : entersB Tryz.prog 79 = true := by kernel_rfl
@[go_sem] theorem f79_rs : Tryz.f79.results.toList = [.tmp 6] := by kernel_rfl
@[go_sem] theorem f79_nt : Tryz.f79.ntmps = 15 := by kernel_rfl
@[go_sem] theorem f80_en : entersB Tryz.prog 80 = true := by kernel_rfl
@[go_sem] theorem f80_rs : Tryz.f80.results.toList = [.tmp 2] := by kernel_rfl
@[go_sem] theorem f80_nt : Tryz.f80.ntmps = 18 := by kernel_rfl
@[go_sem] theorem f81_en : entersB Tryz.prog 81 = true := by kernel_rfl
@[go_sem] theorem f81_rs : Tryz.f81.results.toList = [.tmp 8] := by kernel_rfl
@[go_sem] theorem f81_nt : Tryz.f81.ntmps = 12 := by kernel_rfl
@[go_sem] theorem f82_en : entersB Tryz.prog 82 = true := by kernel_rfl
@[go_sem] theorem f82_rs : Tryz.f82.results.toList = [.tmp 4, .tmp 5] := by kernel_rfl
@[go_sem] theorem f82_nt : Tryz.f82.ntmps = 18 := by kernel_rfl
@[go_sem] theorem f83_en : entersB Tryz.prog 83 = true := by kernel_rfl
@[go_sem] theorem f83_rs : Tryz.f83.results.toList = [.tmp 2] := by kernel_rfl
@[go_sem] theorem f83_nt : Tryz.f83.ntmps = 10 := by kernel_rfl
@[go_sem] theorem f84_en : entersB Tryz.prog 84 = true := by kernel_rfl
@[go_sem] theorem f84_rs : Tryz.f84.results.toList = [.tmp 2] := by kernel_rfl
@[go_sem] theorem f84_nt : Tryz.f84.ntmps = 11 := by kernel_rfl
@[go_sem] theorem f85_en : entersB Tryz.prog 85 = true := by kernel_rfl
@[go_sem] theorem f85_rs : Tryz.f85.results.toList = [.tmp 8] := by kernel_rfl
@[go_sem] theorem f85_nt : Tryz.f85.ntmps = 52 := by kernel_rfl
@[go_sem] theorem f86_en : entersB Tryz.prog 86 = true := by kernel_rfl
@[go_sem] theorem f86_rs : Tryz.f86.results.toList = [.tmp 6] := by kernel_rfl
@[go_sem] theorem f86_nt : Tryz.f86.ntmps = 36 := by kernel_rfl
@[go_sem] theorem f87_en : entersB Tryz.prog 87 = true := by kernel_rfl
@[go_sem] theorem f87_rs : Tryz.f87.results.toList = [.cell 4 75] := by kernel_rfl
@[go_sem] theorem f87_nt : Tryz.f87.ntmps = 19 := by kernel_rfl
@[go_sem] theorem f88_en : entersB Tryz.prog 88 = true := by kernel_rfl
@[go_sem] theorem f88_rs : Tryz.f88.results.toList = [.tmp 6] := by kernel_rfl
@[go_sem] theorem f88_nt : Tryz.f88.ntmps = 62 := by kernel_rfl
@[go_sem] theorem f89_en : entersB Tryz.prog 89 = true := by kernel_rfl
@[go_sem] theorem f89_rs : Tryz.f89.results.toList = [.cell 4 67] := by kernel_rfl
@[go_sem] theorem f89_nt : Tryz.f89.ntmps = 26 := by kernel_rfl
@[go_sem] theorem f90_en : entersB Tryz.prog 90 = true := by kernel_rfl
@[go_sem] theorem f90_rs : Tryz.f90.results.toList = [.tmp 4] := by kernel_rfl
@[go_sem] theorem f90_nt : Tryz.f90.ntmps = 86 := by kernel_rfl
@[go_sem] theorem f91_en : entersB Tryz.prog 91 = true := by kernel_rfl
@[go_sem] theorem f91_rs : Tryz.f91.results.toList = [.tmp 2] := by kernel_rfl
@[go_sem] theorem f91_nt : Tryz.f91.ntmps = 14 := by kernel_rfl
@[go_sem] theorem f92_en : entersB Tryz.prog 92 = true := by kernel_rfl
@[go_sem] theorem f92_rs : Tryz.f92.results.toList = [.tmp 2] := by kernel_rfl
@[go_sem] theorem f92_nt : Tryz.f92.ntmps = 4 := by kernel_rfl
@[go_sem] theorem f93_en : entersB Tryz.prog 93 = true := by kernel_rfl
@[go_sem] theorem f93_rs : Tryz.f93.results.toList = [.tmp 4] := by kernel_rfl
@[go_sem] theorem f93_nt : Tryz.f93.ntmps = 9 := by kernel_rfl
@[go_sem] theorem f94_en : entersB Tryz.prog 94 = true := by kernel_rfl
@[go_sem] theorem f94_rs : Tryz.f94.results.toList = [.tmp 6] := by kernel_rfl
@[go_sem] theorem f94_nt : Tryz.f94.ntmps = 14 := by kernel_rfl
@[go_sem] theorem f95_en : entersB Tryz.prog 95 = true := by kernel_rfl
@[go_sem] theorem f95_rs : Tryz.f95.results.toList = [.tmp 4] := by kernel_rfl
@[go_sem] theorem f95_nt : Tryz.f95.ntmps = 15 := by kernel_rfl
@[go_sem] theorem f96_en : entersB Tryz.prog 96 = true := by kernel_rfl
@[go_sem] theorem f96_rs : Tryz.f96.results.toList = [.cell 4 67] := by kernel_rfl
@[go_sem] theorem f96_nt : Tryz.f96.ntmps = 25 := by kernel_rfl
@[go_sem] theorem f97_en : entersB Tryz.prog 97 = true := by kernel_rfl
@[go_sem] theorem f97_rs : Tryz.f97.results.toList = [.tmp 4] := by kernel_rfl
@[go_sem] theorem f97_nt : Tryz.f97.ntmps = 16 := by kernel_rfl
@[go_sem] theorem f98_en : entersB Tryz.prog 98 = true := by kernel_rfl
@[go_sem] theorem f98_rs : Tryz.f98.results.toList = [.tmp 2] := by kernel_rfl
@[go_sem] theorem f98_nt : Tryz.f98.ntmps = 54 := by kernel_rfl
@[go_sem] theorem f99_en : entersB Tryz.prog 99 = true := by kernel_rfl
@[go_sem] theorem f99_rs : Tryz.f99.results.toList = [.tmp 4] := by kernel_rfl
@[go_sem] theorem f99_nt : Tryz.f99.ntmps = 19 := by kernel_rfl
@[go_sem] theorem f100_en : entersB Tryz.prog 100 = true := by kernel_rfl
@[go_sem] theorem f100_rs : Tryz.f100.results.toList = [.tmp 2] := by kernel_rfl
@[go_sem] theorem f100_nt : Tryz.f100.ntmps = 83 := by kernel_rfl
@[go_sem] theorem f101_en : entersB Tryz.prog 101 = true := by kernel_rfl
@[go_sem] theorem f101_rs : Tryz.f101.results.toList = [.tmp 2] := by kernel_rfl
@[go_sem] theorem f101_nt : Tryz.f101.ntmps = 25 := by kernel_rfl
@[go_sem] theorem f102_en : entersB Tryz.prog 102 = true := by kernel_rfl
@[go_sem] theorem f102_rs : Tryz.f102.results.toList = [.tmp 6] := by kernel_rfl
@[go_sem] theorem f102_nt : Tryz.f102.ntmps = 15 := by kernel_rfl
@[go_sem] theorem f103_en : entersB Tryz.prog 103 = true := by kernel_rfl
@[go_sem] theorem f103_rs : Tryz.f103.results.toList = [.tmp 4] := by kernel_rfl
@[go_sem] theorem f103_nt : Tryz.f103.ntmps = 19 := by kernel_rfl
@[go_sem] theorem f104_en : entersB Tryz.prog 104 = true := by kernel_rfl
@[go_sem] theorem f104_rs : Tryz.f104.results.toList = [.tmp 4] := by kernel_rfl
@[go_sem] theorem f104_nt : Tryz.f104.ntmps = 35 := by kernel_rfl
@[go_sem] theorem f105_en : entersB Tryz.prog 105 = true := by kernel_rfl
@[go_sem] theorem f105_rs : Tryz.f105.results.toList = [.tmp 4] := by kernel_rfl
@[go_sem] theorem f105_nt : Tryz.f105.ntmps = 19 := by kernel_rfl
@[go_sem] theorem f106_en : entersB Tryz.prog 106 = true := by kernel_rfl
@[go_sem] theorem f106_rs : Tryz.f106.results.toList = [.tmp 6] := by kernel_rfl
@[go_sem] theorem f106_nt : Tryz.f106.ntmps = 15 := by kernel_rfl
@[go_sem] theorem f107_en : entersB Tryz.prog 107 = true := by kernel_rfl
@[go_sem] theorem f107_rs : Tryz.f107.results.toList = [.tmp 4] := by kernel_rfl
@[go_sem] theorem f107_nt : Tryz.f107.ntmps = 18 := by kernel_rfl
@[go_sem] theorem f108_en : entersB Tryz.prog 108 = true := by kernel_rfl
@[go_sem] theorem f108_rs : Tryz.f108.results.toList = [.tmp 5] := by kernel_rfl
@[go_sem] theorem f108_nt : Tryz.f108.ntmps = 12 := by kernel_rfl
@[go_sem] theorem f109_en : entersB Tryz.prog 109 = true := by kernel_rfl
@[go_sem] theorem f109_rs : Tryz.f109.results.toList = [.tmp 2] := by kernel_rfl
@[go_sem] theorem f109_nt : Tryz.f109.ntmps = 25 := by kernel_rfl
@[go_sem] theorem f110_en : entersB Tryz.prog 110 = true := by kernel_rfl
@[go_sem] theorem f110_rs : Tryz.f110.results.toList = [.tmp 2] := by kernel_rfl
@[go_sem] theorem f110_nt : Tryz.f110.ntmps = 25 := by kernel_rfl
@[go_sem] theorem f111_en : entersB Tryz.prog 111 = true := by kernel_rfl
@[go_sem] theorem f111_rs : Tryz.f111.results.toList = [.tmp 5] := by kernel_rfl
@[go_sem] theorem f111_nt : Tryz.f111.ntmps = 43 := by kernel_rfl
@[go_sem] theorem f112_en : entersB Tryz.prog 112 = true := by kernel_rfl
@[go_sem] theorem f112_rs : Tryz.f112.results.toList = [.tmp 6] := by kernel_rfl
@[go_sem] theorem f112_nt : Tryz.f112.ntmps = 18 := by kernel_rfl
@[go_sem] theorem f113_en : entersB Tryz.prog 113 = true := by kernel_rfl
@[go_sem] theorem f113_rs : Tryz.f113.results.toList = [.tmp 4] := by kernel_rfl
@[go_sem] theorem f113_nt : Tryz.f113.ntmps = 43 := by kernel_rfl
@[go_sem] theorem f114_en : entersB Tryz.prog 114 = true := by kernel_rfl
@[go_sem] theorem f114_rs : Tryz.f114.results.toList = [.tmp 2] := by kernel_rfl
@[go_sem] theorem f114_nt : Tryz.f114.ntmps = 14 := by kernel_rfl
@[go_sem] theorem f115_en : entersB Tryz.prog 115 = true := by kernel_rfl
@[go_sem] theorem f115_rs : Tryz.f115.results.toList = [.tmp 4] := by kernel_rfl
@[go_sem] theorem f115_nt : Tryz.f115.ntmps = 12 := by kernel_rfl
@[go_sem] theorem f116_en : entersB Tryz.prog 116 = true := by kernel_rfl
@[go_sem] theorem f116_rs : Tryz.f116.results.toList = [] := by kernel_rfl
@[go_sem] theorem f116_nt : Tryz.f116.ntmps = 14 := by kernel_rfl
@[go_sem] theorem f117_en : entersB Tryz.prog 117 = true := by kernel_rfl
@[go_sem] theorem f117_rs : Tryz.f117.results.toList = [.tmp 4] := by kernel_rfl
@[go_sem] theorem f117_nt : Tryz.f117.ntmps = 10 := by kernel_rfl
@[go_sem] theorem f118_en : entersB Tryz.prog 118 = true := by kernel_rfl
@[go_sem] theorem f118_rs : Tryz.f118.results.toList = [.tmp 4] := by kernel_rfl
@[go_sem] theorem f118_nt : Tryz.f118.ntmps = 20 := by kernel_rfl
@[go_sem] theorem f119_en : entersB Tryz.prog 119 = true := by kernel_rfl
@[go_sem] theorem f119_rs : Tryz.f119.results.toList = [] := by kernel_rfl
@[go_sem] theorem f119_nt : Tryz.f119.ntmps = 19 := by kernel_rfl
@[go_sem] theorem f120_en : entersB Tryz.prog 120 = true := by kernel_rfl
@[go_sem] theorem f120_rs : Tryz.f120.results.toList = [.tmp 4] := by kernel_rfl
@[go_sem] theorem f120_nt : Tryz.f120.ntmps = 19 := by kernel_rfl
@[go_sem] theorem f121_en : entersB Tryz.prog 121 = true := by kernel_rfl
@[go_sem] theorem f121_rs : Tryz.f121.results.toList = [.cell 4 62] := by kernel_rfl
@[go_sem] theorem f121_nt : Tryz.f121.ntmps = 57 := by kernel_rfl
@[go_sem] theorem f122_en : entersB Tryz.prog 122 = true := by kernel_rfl
@[go_sem] theorem f122_rs : Tryz.f122.results.toList = [.tmp 4] := by kernel_rfl
@[go_sem] theorem f122_nt : Tryz.f122.ntmps = 8 := by kernel_rfl
@[go_sem] theorem f123_en : entersB Tryz.prog 123 = true := by kernel_rfl
@[go_sem] theorem f123_rs : Tryz.f123.results.toList = [.tmp 4] := by kernel_rfl
@[go_sem] theorem f123_nt : Tryz.f123.ntmps = 78 := by kernel_rfl
@[go_sem] theorem f124_en : entersB Tryz.prog 124 = true := by kernel_rfl
@[go_sem] theorem f124_rs : Tryz.f124.results.toList = [] := by kernel_rfl
@[go_sem] theorem f124_nt : Tryz.f124.ntmps = 148 := by kernel_rfl
@[go_sem] theorem f125_en : entersB Tryz.prog 125 = true := by kernel_rfl
@[go_sem] theorem f125_rs : Tryz.f125.results.toList = [.tmp 2] := by kernel_rfl
@[go_sem] theorem f125_nt : Tryz.f125.ntmps = 8 := by kernel_rfl
@[go_sem] theorem f126_en : entersB Tryz.prog 126 = true := by kernel_rfl
@[go_sem] theorem f126_rs : Tryz.f126.results.toList = [.tmp 2] := by kernel_rfl
@[go_sem] theorem f126_nt : Tryz.f126.ntmps = 6 := by kernel_rfl
@[go_sem] theorem f127_en : entersB Tryz.prog 127 = true := by kernel_rfl
@[go_sem] theorem f127_rs : Tryz.f127.results.toList = [.tmp 4] := by kernel_rfl
@[go_sem] theorem f127_nt : Tryz.f127.ntmps = 8 := by kernel_rfl
@[go_sem] theorem f128_en : entersB Tryz.prog 128 = true := by kernel_rfl
@[go_sem] theorem f128_rs : Tryz.f128.results.toList = [] := by kernel_rfl
@[go_sem] theorem f128_nt : Tryz.f128.ntmps = 53 := by kernel_rfl
@[go_sem] theorem f129_en : entersB Tryz.prog 129 = true := by kernel_rfl
@[go_sem] theorem f129_rs : Tryz.f129.results.toList = [] := by kernel_rfl
@[go_sem] theorem f129_nt : Tryz.f129.ntmps = 60 := by kernel_rfl
@[go_sem] theorem f130_en : entersB Tryz.prog 130 = true := by kernel_rfl
@[go_sem] theorem f130_rs : Tryz.f130.results.toList = [] := by kernel_rfl
@[go_sem] theorem f130_nt : Tryz.f130.ntmps = 67 := by kernel_rfl
@[go_sem] theorem f131_en : entersB Tryz.prog 131 = true := by kernel_rfl
@[go_sem] theorem f131_rs : Tryz.f131.results.toList = [.tmp 8, .tmp 9] := by kernel_rfl
@[go_sem] theorem f131_nt : Tryz.f131.ntmps = 63 := by kernel_rfl
@[go_sem] theorem f132_en : entersB Tryz.prog 132 = true := by kernel_rfl
@[go_sem] theorem f132_rs : Tryz.f132.results.toList = [] := by kernel_rfl
@[go_sem] theorem f132_nt : Tryz.f132.ntmps = 34 := by kernel_rfl
@[go_sem] theorem f133_en : entersB Tryz.prog 133 = true := by kernel_rfl
@[go_sem] theorem f133_rs : Tryz.f133.results.toList = [.tmp 8] := by kernel_rfl
@[go_sem] theorem f133_nt : Tryz.f133.ntmps = 141 := by kernel_rfl
@[go_sem] theorem f134_en : entersB Tryz.prog 134 = true := by kernel_rfl
@[go_sem] theorem f134_rs : Tryz.f134.results.toList = [.tmp 10] := by kernel_rfl
@[go_sem] theorem f134_nt : Tryz.f134.ntmps = 90 := by kernel_rfl
@[go_sem] theorem f135_en : entersB Tryz.prog 135 = true := by kernel_rfl
@[go_sem] theorem f135_rs : Tryz.f135.results.toList = [.tmp 10, .tmp 11] := by kernel_rfl
@[go_sem] theorem f135_nt : Tryz.f135.ntmps = 178 := by kernel_rfl
@[go_sem] theorem f136_en : entersB Tryz.prog 136 = true := by kernel_rfl
@[go_sem] theorem f136_rs : Tryz.f136.results.toList = [.tmp 2] := by kernel_rfl
@[go_sem] theorem f136_nt : Tryz.f136.ntmps = 19 := by kernel_rfl
@[go_sem] theorem f137_en : entersB Tryz.prog 137 = true := by kernel_rfl
@[go_sem] theorem f137_rs : Tryz.f137.results.toList = [.tmp 2] := by kernel_rfl
@[go_sem] theorem f137_nt : Tryz.f137.ntmps = 25 := by kernel_rfl
@[go_sem] theorem f139_en : entersB Tryz.prog 139 = true := by kernel_rfl
@[go_sem] theorem f139_rs : Tryz.f139.results.toList = [] := by kernel_rfl
@[go_sem] theorem f139_nt : Tryz.f139.ntmps = 82 := by kernel_rfl
@[go_sem] theorem f140_en : entersB Tryz.prog 140 = true := by kernel_rfl
@[go_sem] theorem f140_rs : Tryz.f140.results.toList = [.tmp 2] := by kernel_rfl
@[go_sem] theorem f140_nt : Tryz.f140.ntmps = 7 := by kernel_rfl
@[go_sem] theorem f141_en : entersB Tryz.prog 141 = true := by kernel_rfl
@[go_sem] theorem f141_rs : Tryz.f141.results.toList = [.tmp 2] := by kernel_rfl
@[go_sem] theorem f141_nt : Tryz.f141.ntmps = 33 := by kernel_rfl
@[go_sem] theorem f142_en : entersB Tryz.prog 142 = true := by kernel_rfl
@[go_sem] theorem f142_rs : Tryz.f142.results.toList = [.tmp 8] := by kernel_rfl
@[go_sem] theorem f142_nt : Tryz.f142.ntmps = 18 := by kernel_rfl
@[go_sem] theorem f143_en : entersB Tryz.prog 143 = true := by kernel_rfl
@[go_sem] theorem f143_rs : Tryz.f143.results.toList = [.tmp 12] := by kernel_rfl
@[go_sem] theorem f143_nt : Tryz.f143.ntmps = 41 := by kernel_rfl
@[go_sem] theorem f144_en : entersB Tryz.prog 144 = true := by kernel_rfl
@[go_sem] theorem f144_rs : Tryz.f144.results.toList = [.tmp 10, .tmp 11] := by kernel_rfl
@[go_sem] theorem f144_nt : Tryz.f144.ntmps = 32 := by kernel_rfl
@[go_sem] theorem f0_en : entersB Tryz.prog 0 = false := by kernel_rfl
@[go_sem] theorem f1_en : entersB Tryz.prog 1 = false := by kernel_rfl
@[go_sem] theorem f138_en : entersB Tryz.prog 138 = false := by kernel_rfl
@[go_sem] theorem f145_en : entersB Tryz.prog 145 = false := by kernel_rfl
@[go_sem] theorem f146_en : entersB Tryz.prog 146 = false := by kernel_rfl
@[go_sem] theorem f147_en : entersB Tryz.prog 147 = false := by kernel_rfl
@[go_sem] theorem f148_en : entersB Tryz.prog 148 = false := by kernel_rfl
@[go_sem] theorem f149_en : entersB Tryz.prog 149 = false := by kernel_rfl
@[go_sem] theorem f150_en : entersB Tryz.prog 150 = false := by kernel_rfl
@[go_sem] theorem f151_en : entersB Tryz.prog 151 = false := by kernel_rfl
@[go_sem] theorem f152_en : entersB Tryz.prog 152 = false := by kernel_rfl
@[go_sem] theorem f153_en : entersB Tryz.prog 153 = false := by kernel_rfl
@[go_sem] theorem f154_en : entersB Tryz.prog 154 = false := by kernel_rfl
@[go_sem] theorem f155_en : entersB Tryz.prog 155 = false := by kernel_rfl
@[go_sem] theorem f156_en : entersB Tryz.prog 156 = false := by kernel_rfl
@[go_sem] theorem f157_en : entersB Tryz.prog 157 = false := by kernel_rfl
@[go_sem] theorem f158_en : entersB Tryz.prog 158 = false := by kernel_rfl
@[go_sem] theorem f159_en : entersB Tryz.prog 159 = false := by kernel_rfl
@[go_sem] theorem f160_en : entersB Tryz.prog 160 = false := by kernel_rfl
@[go_sem] theorem f161_en : entersB Tryz.prog 161 = false := by kernel_rfl
end Go.Proofs.YtkmkkjlfnobciaaGreat
