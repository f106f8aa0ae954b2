/- Facts on the types. No condition. -/
import Derived.Test.YtmmjphncnnmdaaaRows
import Derived.Test.YtmmjphncnnmdaaaHCoreC
namespace Go.Proofs.Ytmmjphncnnmdaaa
open Go Go.RowKit
@[go_sem] theorem t3_ag : aggT Try.prog 3 = false := by kernel_rfl
@[go_sem] theorem t3_sz : szT Try.prog 3 = 1 := by kernel_rfl
@[go_sem] theorem t3_in : (Try.prog.info? 3).isSome = true := by kernel_rfl
@[go_sem] theorem t3_un : (Try.prog.underlying 3).isSome = true := by kernel_rfl
@[go_sem] theorem t3_ze : zeroT Try.prog 3 = some [.int .i64 0] := by kernel_rfl
@[go_sem] theorem t3_by : Try.prog.bytesOf 3 = 8 := by kernel_rfl
@[go_sem] theorem t4_ag : aggT Try.prog 4 = false := by kernel_rfl
@[go_sem] theorem t4_sz : szT Try.prog 4 = 1 := by kernel_rfl
@[go_sem] theorem t4_in : (Try.prog.info? 4).isSome = true := by kernel_rfl
@[go_sem] theorem t4_un : (Try.prog.underlying 4).isSome = true := by kernel_rfl
@[go_sem] theorem t4_ze : zeroT Try.prog 4 = some [.bool false] := by kernel_rfl
@[go_sem] theorem t4_by : Try.prog.bytesOf 4 = 1 := by kernel_rfl
@[go_sem] theorem t5_ag : aggT Try.prog 5 = false := by kernel_rfl
@[go_sem] theorem t5_sz : szT Try.prog 5 = 1 := by kernel_rfl
@[go_sem] theorem t5_in : (Try.prog.info? 5).isSome = true := by kernel_rfl
@[go_sem] theorem t5_un : (Try.prog.underlying 5).isSome = true := by kernel_rfl
@[go_sem] theorem t5_ze : zeroT Try.prog 5 = some [.int .u8 0] := by kernel_rfl
@[go_sem] theorem t5_by : Try.prog.bytesOf 5 = 1 := by kernel_rfl
@[go_sem] theorem t9_ag : aggT Try.prog 9 = false := by kernel_rfl
@[go_sem] theorem t9_sz : szT Try.prog 9 = 1 := by kernel_rfl
@[go_sem] theorem t9_in : (Try.prog.info? 9).isSome = true := by kernel_rfl
@[go_sem] theorem t9_un : (Try.prog.underlying 9).isSome = true := by kernel_rfl
@[go_sem] theorem t9_ze : zeroT Try.prog 9 = some [.str ⟨#[]⟩] := by kernel_rfl
@[go_sem] theorem t9_by : Try.prog.bytesOf 9 = 16 := by kernel_rfl
@[go_sem] theorem t22_ag : aggT Try.prog 22 = false := by kernel_rfl
@[go_sem] theorem t22_sz : szT Try.prog 22 = 1 := by kernel_rfl
@[go_sem] theorem t22_in : (Try.prog.info? 22).isSome = true := by kernel_rfl
@[go_sem] theorem t22_un : (Try.prog.underlying 22).isSome = true := by kernel_rfl
@[go_sem] theorem t22_ze : zeroT Try.prog 22 = some [.sl none 0] := by kernel_rfl
@[go_sem] theorem t22_by : Try.prog.bytesOf 22 = 24 := by kernel_rfl
@[go_sem] theorem t25_ag : aggT Try.prog 25 = true := by kernel_rfl
@[go_sem] theorem t25_sz : szT Try.prog 25 = 2 := by kernel_rfl
@[go_sem] theorem t25_in : (Try.prog.info? 25).isSome = true := by kernel_rfl
@[go_sem] theorem t25_un : (Try.prog.underlying 25).isSome = true := by kernel_rfl
@[go_sem] theorem t25_ze : zeroT Try.prog 25 = some [.sl none 0, .int .i64 0] := by kernel_rfl
@[go_sem] theorem t25_by : Try.prog.bytesOf 25 = 32 := by kernel_rfl
@[go_sem] theorem t25_fo : fieldsOk Try.prog 25 = true := by kernel_rfl
@[go_sem] theorem t27_ag : aggT Try.prog 27 = false := by kernel_rfl
@[go_sem] theorem t27_sz : szT Try.prog 27 = 1 := by kernel_rfl
@[go_sem] theorem t27_in : (Try.prog.info? 27).isSome = true := by kernel_rfl
@[go_sem] theorem t27_un : (Try.prog.underlying 27).isSome = true := by kernel_rfl
@[go_sem] theorem t27_ze : zeroT Try.prog 27 = some [.sl none 0] := by kernel_rfl
@[go_sem] theorem t27_by : Try.prog.bytesOf 27 = 24 := by kernel_rfl
@[go_sem] theorem t31_ag : aggT Try.prog 31 = false := by kernel_rfl
@[go_sem] theorem t31_sz : szT Try.prog 31 = 1 := by kernel_rfl
@[go_sem] theorem t31_in : (Try.prog.info? 31).isSome = true := by kernel_rfl
@[go_sem] theorem t31_un : (Try.prog.underlying 31).isSome = true := by kernel_rfl
@[go_sem] theorem t31_ze : zeroT Try.prog 31 = some [.sl none 0] := by kernel_rfl
@[go_sem] theorem t31_by : Try.prog.bytesOf 31 = 24 := by kernel_rfl
@[go_sem] theorem t32_ag : aggT Try.prog 32 = false := by kernel_rfl
@[go_sem] theorem t32_sz : szT Try.prog 32 = 1 := by kernel_rfl
@[go_sem] theorem t32_in : (Try.prog.info? 32).isSome = true := by kernel_rfl
@[go_sem] theorem t32_un : (Try.prog.underlying 32).isSome = true := by kernel_rfl
@[go_sem] theorem t32_ze : zeroT Try.prog 32 = some [.int .i64 0] := by kernel_rfl
@[go_sem] theorem t32_by : Try.prog.bytesOf 32 = 8 := by kernel_rfl
@[go_sem] theorem t41_ag : aggT Try.prog 41 = true := by kernel_rfl
@[go_sem] theorem t41_sz : szT Try.prog 41 = 7 := by kernel_rfl
@[go_sem] theorem t41_in : (Try.prog.info? 41).isSome = true := by kernel_rfl
@[go_sem] theorem t41_un : (Try.prog.underlying 41).isSome = true := by kernel_rfl
@[go_sem] theorem t41_ze : zeroT Try.prog 41 = some [.int .i64 0, .int .i64 0, .str ⟨#[]⟩, .int .i64 0, .int .i64 0, .int .i64 0, .bool false] := by kernel_rfl
@[go_sem] theorem t41_by : Try.prog.bytesOf 41 = 64 := by kernel_rfl
@[go_sem] theorem t41_fo : fieldsOk Try.prog 41 = true := by kernel_rfl
@[go_sem] theorem t46_ag : aggT Try.prog 46 = true := by kernel_rfl
@[go_sem] theorem t46_sz : szT Try.prog 46 = 3 := by kernel_rfl
@[go_sem] theorem t46_in : (Try.prog.info? 46).isSome = true := by kernel_rfl
@[go_sem] theorem t46_un : (Try.prog.underlying 46).isSome = true := by kernel_rfl
@[go_sem] theorem t46_ze : zeroT Try.prog 46 = some [.int .i64 0, .int .i64 0, .int .i64 0] := by kernel_rfl
@[go_sem] theorem t46_by : Try.prog.bytesOf 46 = 24 := by kernel_rfl
@[go_sem] theorem t46_fo : fieldsOk Try.prog 46 = true := by kernel_rfl
@[go_sem] theorem t51_ag : aggT Try.prog 51 = true := by kernel_rfl
@[go_sem] theorem t51_sz : szT Try.prog 51 = 2 := by kernel_rfl
@[go_sem] theorem t51_in : (Try.prog.info? 51).isSome = true := by kernel_rfl
@[go_sem] theorem t51_un : (Try.prog.underlying 51).isSome = true := by kernel_rfl
@[go_sem] theorem t51_ze : zeroT Try.prog 51 = some [.int .i64 0, .int .i64 0] := by kernel_rfl
@[go_sem] theorem t51_by : Try.prog.bytesOf 51 = 16 := by kernel_rfl
@[go_sem] theorem t51_fo : fieldsOk Try.prog 51 = true := by kernel_rfl
@[go_sem] theorem t72_ag : aggT Try.prog 72 = true := by kernel_rfl
@[go_sem] theorem t72_sz : szT Try.prog 72 = 3 := by kernel_rfl
@[go_sem] theorem t72_in : (Try.prog.info? 72).isSome = true := by kernel_rfl
@[go_sem] theorem t72_un : (Try.prog.underlying 72).isSome = true := by kernel_rfl
@[go_sem] theorem t72_ze : zeroT Try.prog 72 = some [.sl none 0, .int .i64 0, .bool false] := by kernel_rfl
@[go_sem] theorem t72_by : Try.prog.bytesOf 72 = 40 := by kernel_rfl
@[go_sem] theorem t72_fo : fieldsOk Try.prog 72 = true := by kernel_rfl
@[go_sem] theorem t96_ag : aggT Try.prog 96 = true := by kernel_rfl
@[go_sem] theorem t96_sz : szT Try.prog 96 = 3 := by kernel_rfl
@[go_sem] theorem t96_in : (Try.prog.info? 96).isSome = true := by kernel_rfl
@[go_sem] theorem t96_un : (Try.prog.underlying 96).isSome = true := by kernel_rfl
@[go_sem] theorem t96_ze : zeroT Try.prog 96 = some [.sl none 0, .int .i64 0, .bool false] := by kernel_rfl
@[go_sem] theorem t96_by : Try.prog.bytesOf 96 = 40 := by kernel_rfl
@[go_sem] theorem t96_fo : fieldsOk Try.prog 96 = true := by kernel_rfl
@[go_sem] theorem t110_ag : aggT Try.prog 110 = true := by kernel_rfl
@[go_sem] theorem t110_sz : szT Try.prog 110 = 8 := by kernel_rfl
@[go_sem] theorem t110_in : (Try.prog.info? 110).isSome = true := by kernel_rfl
@[go_sem] theorem t110_un : (Try.prog.underlying 110).isSome = true := by kernel_rfl
@[go_sem] theorem t110_ze : zeroT Try.prog 110 = some [.int .i64 0, .int .i64 0, .str ⟨#[]⟩, .int .i64 0, .int .i64 0, .int .i64 0, .bool false, .sl none 0] := by kernel_rfl
@[go_sem] theorem t110_by : Try.prog.bytesOf 110 = 88 := by kernel_rfl
@[go_sem] theorem t110_fo : fieldsOk Try.prog 110 = true := by kernel_rfl
@[go_sem] theorem t133_ag : aggT Try.prog 133 = false := by kernel_rfl
@[go_sem] theorem t133_sz : szT Try.prog 133 = 1 := by kernel_rfl
@[go_sem] theorem t133_in : (Try.prog.info? 133).isSome = true := by kernel_rfl
@[go_sem] theorem t133_un : (Try.prog.underlying 133).isSome = true := by kernel_rfl
@[go_sem] theorem t133_ze : zeroT Try.prog 133 = some [.int .u64 0] := by kernel_rfl
@[go_sem] theorem t133_by : Try.prog.bytesOf 133 = 8 := by kernel_rfl
@[go_sem] theorem t25_f0 : fieldT Try.prog 25 0 = some (0, 1) := by kernel_rfl
@[go_sem] theorem t25_f1 : fieldT Try.prog 25 1 = some (1, 1) := by kernel_rfl
@[go_sem] theorem t41_f0 : fieldT Try.prog 41 0 = some (0, 1) := by kernel_rfl
@[go_sem] theorem t41_f1 : fieldT Try.prog 41 1 = some (1, 1) := by kernel_rfl
@[go_sem] theorem t41_f2 : fieldT Try.prog 41 2 = some (2, 1) := by kernel_rfl
@[go_sem] theorem t41_f3 : fieldT Try.prog 41 3 = some (3, 1) := by kernel_rfl
@[go_sem] theorem t41_f4 : fieldT Try.prog 41 4 = some (4, 1) := by kernel_rfl
@[go_sem] theorem t41_f5 : fieldT Try.prog 41 5 = some (5, 1) := by kernel_rfl
@[go_sem] theorem t41_f6 : fieldT Try.prog 41 6 = some (6, 1) := by kernel_rfl
@[go_sem] theorem t46_f0 : fieldT Try.prog 46 0 = some (0, 1) := by kernel_rfl
@[go_sem] theorem t46_f1 : fieldT Try.prog 46 1 = some (1, 1) := by kernel_rfl
@[go_sem] theorem t46_f2 : fieldT Try.prog 46 2 = some (2, 1) := by kernel_rfl
@[go_sem] theorem t51_f0 : fieldT Try.prog 51 0 = some (0, 1) := by kernel_rfl
@[go_sem] theorem t51_f1 : fieldT Try.prog 51 1 = some (1, 1) := by kernel_rfl
@[go_sem] theorem t72_f0 : fieldT Try.prog 72 0 = some (0, 1) := by kernel_rfl
@[go_sem] theorem t72_f1 : fieldT Try.prog 72 1 = some (1, 1) := by kernel_rfl
@[go_sem] theorem t72_f2 : fieldT Try.prog 72 2 = some (2, 1) := by kernel_rfl
@[go_sem] theorem t96_f0 : fieldT Try.prog 96 0 = some (0, 1) := by kernel_rfl
@[go_sem] theorem t96_f1 : fieldT Try.prog 96 1 = some (1, 1) := by kernel_rfl
@[go_sem] theorem t96_f2 : fieldT Try.prog 96 2 = some (2, 1) := by kernel_rfl
@[go_sem] theorem t110_f0 : fieldT Try.prog 110 0 = some (0, 7) := by kernel_rfl
@[go_sem] theorem t110_f1 : fieldT Try.prog 110 1 = some (7, 1) := by kernel_rfl
@[go_sem] theorem t9_st : strT Try.prog 9 = true := by kernel_rfl
@[go_sem] theorem t9_el : elemT Try.prog 9 = none := by kernel_rfl
@[go_sem] theorem t9_us : Try.prog.underlying 9 = some .string := by kernel_rfl
@[go_sem] theorem t22_el : elemT Try.prog 22 = some 3 := by kernel_rfl
@[go_sem] theorem t22_st : strT Try.prog 22 = false := by kernel_rfl
@[go_sem] theorem t27_el : elemT Try.prog 27 = some 46 := by kernel_rfl
@[go_sem] theorem t27_st : strT Try.prog 27 = false := by kernel_rfl
@[go_sem] theorem t31_el : elemT Try.prog 31 = some 5 := by kernel_rfl
@[go_sem] theorem t31_st : strT Try.prog 31 = false := by kernel_rfl
@[go_sem] theorem t61_el : elemT Try.prog 61 = some 9 := by kernel_rfl
@[go_sem] theorem t61_st : strT Try.prog 61 = false := by kernel_rfl
@[go_sem] theorem t81_el : elemT Try.prog 81 = some 32 := by kernel_rfl
@[go_sem] theorem t81_st : strT Try.prog 81 = false := by kernel_rfl
@[go_sem] theorem t89_el : elemT Try.prog 89 = some 110 := by kernel_rfl
@[go_sem] theorem t89_st : strT Try.prog 89 = false := by kernel_rfl
@[go_sem] theorem t99_el : elemT Try.prog 99 = some 27 := by kernel_rfl
@[go_sem] theorem t99_st : strT Try.prog 99 = false := by kernel_rfl
@[go_sem] theorem t111_el : elemT Try.prog 111 = some 31 := by kernel_rfl
@[go_sem] theorem t111_st : strT Try.prog 111 = false := by kernel_rfl
@[go_sem] theorem t3_ik : intK Try.prog 3 = some .i64 := by kernel_rfl
@[go_sem] theorem t5_ik : intK Try.prog 5 = some .u8 := by kernel_rfl
@[go_sem] theorem t9_ik : intK Try.prog 9 = none := by kernel_rfl
@[go_sem] theorem t31_ik : intK Try.prog 31 = none := by kernel_rfl
@[go_sem] theorem t103_un : (Try.prog.underlying 103).isSome = true := by kernel_rfl
@[go_sem] theorem t103_ik : intK Try.prog 103 = some .u64 := by kernel_rfl
@[go_sem] theorem t126_un : (Try.prog.underlying 126).isSome = true := by kernel_rfl
@[go_sem] theorem t126_ik : intK Try.prog 126 = some .u32 := by kernel_rfl
@[go_sem] theorem t128_un : (Try.prog.underlying 128).isSome = true := by kernel_rfl
@[go_sem] theorem t128_ik : intK Try.prog 128 = some .u64 := by kernel_rfl
@[go_sem] theorem t133_ik : intK Try.prog 133 = some .u64 := by kernel_rfl
@[go_sem] theorem t3_bt : bytesT Try.prog 3 = false := by kernel_rfl
@[go_sem] theorem t5_bt : bytesT Try.prog 5 = false := by kernel_rfl
@[go_sem] theorem t9_bt : bytesT Try.prog 9 = false := by kernel_rfl
@[go_sem] theorem t31_bt : bytesT Try.prog 31 = true := by kernel_rfl
@[go_sem] theorem t103_bt : bytesT Try.prog 103 = false := by kernel_rfl
@[go_sem] theorem t126_bt : bytesT Try.prog 126 = false := by kernel_rfl
@[go_sem] theorem t128_bt : bytesT Try.prog 128 = false := by kernel_rfl
@[go_sem] theorem t133_bt : bytesT Try.prog 133 = false := by kernel_rfl
@[go_sem] theorem t9_co : conT Try.prog 9 = true := by kernel_rfl
@[go_sem] theorem t27_kd : kindT Try.prog 27 = 3 := by kernel_rfl
@[go_sem] theorem t31_kd : kindT Try.prog 31 = 3 := by kernel_rfl
@[go_sem] theorem t41_fk : fieldsK Try.prog 41 = some [(0, 1), (1, 1), (2, 3), (3, 1), (4, 1), (5, 1), (6, 2)] := by kernel_rfl
@[go_sem] theorem t46_fk : fieldsK Try.prog 46 = some [(0, 1), (1, 1), (2, 1)] := by kernel_rfl
@[go_sem] theorem f2_en : entersB Try.prog 2 = true := by kernel_rfl
@[go_sem] theorem f2_rs : Try.f2.results.toList = [] := by kernel_rfl
@[go_sem] theorem f2_nt : Try.f2.ntmps = 1 := by kernel_rfl
@[go_sem] theorem f3_en : entersB Try.prog 3 = true := by kernel_rfl
@[go_sem] theorem f3_rs : Try.f3.results.toList = [.tmp 2] := by kernel_rfl
@[go_sem] theorem f3_nt : Try.f3.ntmps = 108 := by kernel_rfl
@[go_sem] theorem f4_en : entersB Try.prog 4 = true := by kernel_rfl
@[go_sem] theorem f4_rs : Try.f4.results.toList = [.tmp 2] := by kernel_rfl
@[go_sem] theorem f4_nt : Try.f4.ntmps = 99 := by kernel_rfl
@[go_sem] theorem f5_en : entersB Try.prog 5 = true := by kernel_rfl
@[go_sem] theorem f5_rs : Try.f5.results.toList = [.tmp 4] := by kernel_rfl
@[go_sem] theorem f5_nt : Try.f5.ntmps = 12 := by kernel_rfl
@[go_sem] theorem f6_en : entersB Try.prog 6 = true := by kernel_rfl
@[go_sem] theorem f6_rs : Try.f6.results.toList = [.tmp 4] := by kernel_rfl
@[go_sem] theorem f6_nt : Try.f6.ntmps = 25 := by kernel_rfl
@[go_sem] theorem f7_en : entersB Try.prog 7 = true := by kernel_rfl
@[go_sem] theorem f7_rs : Try.f7.results.toList = [.tmp 4] := by kernel_rfl
@[go_sem] theorem f7_nt : Try.f7.ntmps = 9 := by kernel_rfl
@[go_sem] theorem f8_en : entersB Try.prog 8 = true := by kernel_rfl
@[go_sem] theorem f8_rs : Try.f8.results.toList = [.tmp 2] := by kernel_rfl
@[go_sem] theorem f8_nt : Try.f8.ntmps = 27 := by kernel_rfl
@[go_sem] theorem f9_en : entersB Try.prog 9 = true := by kernel_rfl
@[go_sem] theorem f9_rs : Try.f9.results.toList = [.tmp 6, .tmp 7] := by kernel_rfl
@[go_sem] theorem f9_nt : Try.f9.ntmps = 29 := by kernel_rfl
@[go_sem] theorem f10_en : entersB Try.prog 10 = true := by kernel_rfl
@[go_sem] theorem f10_rs : Try.f10.results.toList = [.tmp 6, .tmp 7] := by kernel_rfl
@[go_sem] theorem f10_nt : Try.f10.ntmps = 29 := by kernel_rfl
@[go_sem] theorem f11_en : entersB Try.prog 11 = true := by kernel_rfl
@[go_sem] theorem f11_rs : Try.f11.results.toList = [.tmp 4] := by kernel_rfl
@[go_sem] theorem f11_nt : Try.f11.ntmps = 10 := by kernel_rfl
@[go_sem] theorem f12_en : entersB Try.prog 12 = true := by kernel_rfl
@[go_sem] theorem f12_rs : Try.f12.results.toList = [.tmp 4] := by kernel_rfl
@[go_sem] theorem f12_nt : Try.f12.ntmps = 59 := by kernel_rfl
@[go_sem] theorem f13_en : entersB Try.prog 13 = true := by kernel_rfl
@[go_sem] theorem f13_rs : Try.f13.results.toList = [.tmp 2] := by kernel_rfl
@[go_sem] theorem f13_nt : Try.f13.ntmps = 31 := by kernel_rfl
@[go_sem] theorem f14_en : entersB Try.prog 14 = true := by kernel_rfl
@[go_sem] theorem f14_rs : Try.f14.results.toList = [.tmp 2] := by kernel_rfl
@[go_sem] theorem f14_nt : Try.f14.ntmps = 55 := by kernel_rfl
@[go_sem] theorem f15_en : entersB Try.prog 15 = true := by kernel_rfl
@[go_sem] theorem f15_rs : Try.f15.results.toList = [.tmp 4] := by kernel_rfl
@[go_sem] theorem f15_nt : Try.f15.ntmps = 12 := by kernel_rfl
@[go_sem] theorem f16_en : entersB Try.prog 16 = true := by kernel_rfl
@[go_sem] theorem f16_rs : Try.f16.results.toList = [.tmp 6] := by kernel_rfl
@[go_sem] theorem f16_nt : Try.f16.ntmps = 19 := by kernel_rfl
@[go_sem] theorem f17_en : entersB Try.prog 17 = true := by kernel_rfl
@[go_sem] theorem f17_rs : Try.f17.results.toList = [.cell 4 41, .tmp 5, .tmp 6] := by kernel_rfl
@[go_sem] theorem f17_nt : Try.f17.ntmps = 24 := by kernel_rfl
@[go_sem] theorem f18_en : entersB Try.prog 18 = true := by kernel_rfl
@[go_sem] theorem f18_rs : Try.f18.results.toList = [.cell 4 41, .tmp 5, .tmp 6] := by kernel_rfl
@[go_sem] theorem f18_nt : Try.f18.ntmps = 152 := by kernel_rfl
@[go_sem] theorem f19_en : entersB Try.prog 19 = true := by kernel_rfl
@[go_sem] theorem f19_rs : Try.f19.results.toList = [.tmp 4] := by kernel_rfl
@[go_sem] theorem f19_nt : Try.f19.ntmps = 26 := by kernel_rfl
@[go_sem] theorem f20_en : entersB Try.prog 20 = true := by kernel_rfl
@[go_sem] theorem f20_rs : Try.f20.results.toList = [.tmp 0] := by kernel_rfl
@[go_sem] theorem f20_nt : Try.f20.ntmps = 14 := by kernel_rfl
@[go_sem] theorem f21_en : entersB Try.prog 21 = true := by kernel_rfl
@[go_sem] theorem f21_rs : Try.f21.results.toList = [.cell 2 46] := by kernel_rfl
@[go_sem] theorem f21_nt : Try.f21.ntmps = 13 := by kernel_rfl
@[go_sem] theorem f22_en : entersB Try.prog 22 = true := by kernel_rfl
@[go_sem] theorem f22_rs : Try.f22.results.toList = [.cell 2 51] := by kernel_rfl
@[go_sem] theorem f22_nt : Try.f22.ntmps = 10 := by kernel_rfl
@[go_sem] theorem f23_en : entersB Try.prog 23 = true := by kernel_rfl
@[go_sem] theorem f23_rs : Try.f23.results.toList = [.tmp 4, .tmp 5] := by kernel_rfl
@[go_sem] theorem f23_nt : Try.f23.ntmps = 29 := by kernel_rfl
@[go_sem] theorem f24_en : entersB Try.prog 24 = true := by kernel_rfl
@[go_sem] theorem f24_rs : Try.f24.results.toList = [.tmp 4, .tmp 5] := by kernel_rfl
@[go_sem] theorem f24_nt : Try.f24.ntmps = 16 := by kernel_rfl
@[go_sem] theorem f25_en : entersB Try.prog 25 = true := by kernel_rfl
@[go_sem] theorem f25_rs : Try.f25.results.toList = [.tmp 2] := by kernel_rfl
@[go_sem] theorem f25_nt : Try.f25.ntmps = 35 := by kernel_rfl
@[go_sem] theorem f26_en : entersB Try.prog 26 = true := by kernel_rfl
@[go_sem] theorem f26_rs : Try.f26.results.toList = [.tmp 2] := by kernel_rfl
@[go_sem] theorem f26_nt : Try.f26.ntmps = 15 := by kernel_rfl
@[go_sem] theorem f27_en : entersB Try.prog 27 = true := by kernel_rfl
@[go_sem] theorem f27_rs : Try.f27.results.toList = [.tmp 2] := by kernel_rfl
@[go_sem] theorem f27_nt : Try.f27.ntmps = 14 := by kernel_rfl
@[go_sem] theorem f28_en : entersB Try.prog 28 = true := by kernel_rfl
@[go_sem] theorem f28_rs : Try.f28.results.toList = [.tmp 4, .tmp 5] := by kernel_rfl
@[go_sem] theorem f28_nt : Try.f28.ntmps = 19 := by kernel_rfl
@[go_sem] theorem f29_en : entersB Try.prog 29 = true := by kernel_rfl
@[go_sem] theorem f29_rs : Try.f29.results.toList = [.tmp 4] := by kernel_rfl
@[go_sem] theorem f29_nt : Try.f29.ntmps = 9 := by kernel_rfl
@[go_sem] theorem f30_en : entersB Try.prog 30 = true := by kernel_rfl
@[go_sem] theorem f30_rs : Try.f30.results.toList = [.tmp 2] := by kernel_rfl
@[go_sem] theorem f30_nt : Try.f30.ntmps = 25 := by kernel_rfl
@[go_sem] theorem f31_en : entersB Try.prog 31 = true := by kernel_rfl
@[go_sem] theorem f31_rs : Try.f31.results.toList = [.tmp 2] := by kernel_rfl
@[go_sem] theorem f31_nt : Try.f31.ntmps = 27 := by kernel_rfl
@[go_sem] theorem f32_en : entersB Try.prog 32 = true := by kernel_rfl
@[go_sem] theorem f32_rs : Try.f32.results.toList = [.tmp 2] := by kernel_rfl
@[go_sem] theorem f32_nt : Try.f32.ntmps = 35 := by kernel_rfl
@[go_sem] theorem f33_en : entersB Try.prog 33 = true := by kernel_rfl
@[go_sem] theorem f33_rs : Try.f33.results.toList = [.tmp 0] := by kernel_rfl
@[go_sem] theorem f33_nt : Try.f33.ntmps = 25 := by kernel_rfl
@[go_sem] theorem f34_en : entersB Try.prog 34 = true := by kernel_rfl
@[go_sem] theorem f34_rs : Try.f34.results.toList = [.tmp 4] := by kernel_rfl
@[go_sem] theorem f34_nt : Try.f34.ntmps = 64 := by kernel_rfl
@[go_sem] theorem f35_en : entersB Try.prog 35 = true := by kernel_rfl
@[go_sem] theorem f35_rs : Try.f35.results.toList = [.tmp 4] := by kernel_rfl
@[go_sem] theorem f35_nt : Try.f35.ntmps = 39 := by kernel_rfl
@[go_sem] theorem f36_en : entersB Try.prog 36 = true := by kernel_rfl
@[go_sem] theorem f36_rs : Try.f36.results.toList = [.tmp 2] := by kernel_rfl
@[go_sem] theorem f36_nt : Try.f36.ntmps = 54 := by kernel_rfl
@[go_sem] theorem f37_en : entersB Try.prog 37 = true := by kernel_rfl
@[go_sem] theorem f37_rs : Try.f37.results.toList = [.tmp 6] := by kernel_rfl
@[go_sem] theorem f37_nt : Try.f37.ntmps = 70 := by kernel_rfl
@[go_sem] theorem f38_en : entersB Try.prog 38 = true := by kernel_rfl
@[go_sem] theorem f38_rs : Try.f38.results.toList = [.tmp 2] := by kernel_rfl
@[go_sem] theorem f38_nt : Try.f38.ntmps = 15 := by kernel_rfl
@[go_sem] theorem f39_en : entersB Try.prog 39 = true := by kernel_rfl
@[go_sem] theorem f39_rs : Try.f39.results.toList = [.tmp 6] := by kernel_rfl
@[go_sem] theorem f39_nt : Try.f39.ntmps = 67 := by kernel_rfl
@[go_sem] theorem f40_en : entersB Try.prog 40 = true := by kernel_rfl
@[go_sem] theorem f40_rs : Try.f40.results.toList = [.tmp 2] := by kernel_rfl
@[go_sem] theorem f40_nt : Try.f40.ntmps = 8 := by kernel_rfl
@[go_sem] theorem f41_en : entersB Try.prog 41 = true := by kernel_rfl
@[go_sem] theorem f41_rs : Try.f41.results.toList = [.tmp 6] := by kernel_rfl
@[go_sem] theorem f41_nt : Try.f41.ntmps = 95 := by kernel_rfl
@[go_sem] theorem f42_en : entersB Try.prog 42 = true := by kernel_rfl
@[go_sem] theorem f42_rs : Try.f42.results.toList = [.tmp 6] := by kernel_rfl
@[go_sem] theorem f42_nt : Try.f42.ntmps = 33 := by kernel_rfl
@[go_sem] theorem f43_en : entersB Try.prog 43 = true := by kernel_rfl
@[go_sem] theorem f43_rs : Try.f43.results.toList = [.tmp 6, .tmp 7] := by kernel_rfl
@[go_sem] theorem f43_nt : Try.f43.ntmps = 69 := by kernel_rfl
@[go_sem] theorem f44_en : entersB Try.prog 44 = true := by kernel_rfl
@[go_sem] theorem f44_rs : Try.f44.results.toList = [.tmp 2] := by kernel_rfl
@[go_sem] theorem f44_nt : Try.f44.ntmps = 21 := by kernel_rfl
@[go_sem] theorem f45_en : entersB Try.prog 45 = true := by kernel_rfl
@[go_sem] theorem f45_rs : Try.f45.results.toList = [.tmp 6] := by kernel_rfl
@[go_sem] theorem f45_nt : Try.f45.ntmps = 15 := by kernel_rfl
@[go_sem] theorem f46_en : entersB Try.prog 46 = true := by kernel_rfl
@[go_sem] theorem f46_rs : Try.f46.results.toList = [.cell 4 41, .tmp 5, .tmp 6] := by kernel_rfl
@[go_sem] theorem f46_nt : Try.f46.ntmps = 123 := by kernel_rfl
@[go_sem] theorem f47_en : entersB Try.prog 47 = true := by kernel_rfl
@[go_sem] theorem f47_rs : Try.f47.results.toList = [.tmp 6] := by kernel_rfl
@[go_sem] theorem f47_nt : Try.f47.ntmps = 15 := by kernel_rfl
@[go_sem] theorem f48_en : entersB Try.prog 48 = true := by kernel_rfl
@[go_sem] theorem f48_rs : Try.f48.results.toList = [.tmp 4] := by kernel_rfl
@[go_sem] theorem f48_nt : Try.f48.ntmps = 49 := by kernel_rfl
@[go_sem] theorem f49_en : entersB Try.prog 49 = true := by kernel_rfl
@[go_sem] theorem f49_rs : Try.f49.results.toList = [.tmp 6] := by kernel_rfl
@[go_sem] theorem f49_nt : Try.f49.ntmps = 46 := by kernel_rfl
@[go_sem] theorem f50_en : entersB Try.prog 50 = true := by kernel_rfl
@[go_sem] theorem f50_rs : Try.f50.results.toList = [.tmp 2, .tmp 3] := by kernel_rfl
@[go_sem] theorem f50_nt : Try.f50.ntmps = 8 := by kernel_rfl
@[go_sem] theorem f51_en : entersB Try.prog 51 = true := by kernel_rfl
@[go_sem] theorem f51_rs : Try.f51.results.toList = [.tmp 2] := by kernel_rfl
@[go_sem] theorem f51_nt : Try.f51.ntmps = 15 := by kernel_rfl
@[go_sem] theorem f52_en : entersB Try.prog 52 = true := by kernel_rfl
@[go_sem] theorem f52_rs : Try.f52.results.toList = [.tmp 2] := by kernel_rfl
@[go_sem] theorem f52_nt : Try.f52.ntmps = 36 := by kernel_rfl
@[go_sem] theorem f53_en : entersB Try.prog 53 = true := by kernel_rfl
@[go_sem] theorem f53_rs : Try.f53.results.toList = [] := by kernel_rfl
@[go_sem] theorem f53_nt : Try.f53.ntmps = 14 := by kernel_rfl
@[go_sem] theorem f54_en : entersB Try.prog 54 = true := by kernel_rfl
@[go_sem] theorem f54_rs : Try.f54.results.toList = [.tmp 4] := by kernel_rfl
@[go_sem] theorem f54_nt : Try.f54.ntmps = 22 := by kernel_rfl
@[go_sem] theorem f55_en : entersB Try.prog 55 = true := by kernel_rfl
@[go_sem] theorem f55_rs : Try.f55.results.toList = [.tmp 4] := by kernel_rfl
@[go_sem] theorem f55_nt : Try.f55.ntmps = 66 := by kernel_rfl
@[go_sem] theorem f56_en : entersB Try.prog 56 = true := by kernel_rfl
@[go_sem] theorem f56_rs : Try.f56.results.toList = [.tmp 4] := by kernel_rfl
@[go_sem] theorem f56_nt : Try.f56.ntmps = 10 := by kernel_rfl
@[go_sem] theorem f57_en : entersB Try.prog 57 = true := by kernel_rfl
@[go_sem] theorem f57_rs : Try.f57.results.toList = [.tmp 4] := by kernel_rfl
@[go_sem] theorem f57_nt : Try.f57.ntmps = 16 := by kernel_rfl
@[go_sem] theorem f58_en : entersB Try.prog 58 = true := by kernel_rfl
@[go_sem] theorem f58_rs : Try.f58.results.toList = [.tmp 4] := by kernel_rfl
@[go_sem] theorem f58_nt : Try.f58.ntmps = 24 := by kernel_rfl
@[go_sem] theorem f59_en : entersB Try.prog 59 = true := by kernel_rfl
@[go_sem] theorem f59_rs : Try.f59.results.toList = [.tmp 4] := by kernel_rfl
@[go_sem] theorem f59_nt : Try.f59.ntmps = 22 := by kernel_rfl
@[go_sem] theorem f60_en : entersB Try.prog 60 = true := by kernel_rfl
@[go_sem] theorem f60_rs : Try.f60.results.toList = [.tmp 4] := by kernel_rfl
@[go_sem] theorem f60_nt : Try.f60.ntmps = 36 := by kernel_rfl
@[go_sem] theorem f61_en : entersB Try.prog 61 = true := by kernel_rfl
@[go_sem] theorem f61_rs : Try.f61.results.toList = [.tmp 4] := by kernel_rfl
@[go_sem] theorem f61_nt : Try.f61.ntmps = 10 := by kernel_rfl
@[go_sem] theorem f62_en : entersB Try.prog 62 = true := by kernel_rfl
@[go_sem] theorem f62_rs : Try.f62.results.toList = [.tmp 4] := by kernel_rfl
@[go_sem] theorem f62_nt : Try.f62.ntmps = 42 := by kernel_rfl
@[go_sem] theorem f63_en : entersB Try.prog 63 = true := by kernel_rfl
@[go_sem] theorem f63_rs : Try.f63.results.toList = [.tmp 2] := by kernel_rfl
@[go_sem] theorem f63_nt : Try.f63.ntmps = 8 := by kernel_rfl
@[go_sem] theorem f64_en : entersB Try.prog 64 = true := by kernel_rfl
@[go_sem] theorem f64_rs : Try.f64.results.toList = [.tmp 3] := by kernel_rfl
@[go_sem] theorem f64_nt : Try.f64.ntmps = 16 := by kernel_rfl
@[go_sem] theorem f65_en : entersB Try.prog 65 = true := by kernel_rfl
@[go_sem] theorem f65_rs : Try.f65.results.toList = [.tmp 2] := by kernel_rfl
@[go_sem] theorem f65_nt : Try.f65.ntmps = 6 := by kernel_rfl
@[go_sem] theorem f66_en : entersB Try.prog 66 = true := by kernel_rfl
@[go_sem] theorem f66_rs : Try.f66.results.toList = [.tmp 2] := by kernel_rfl
@[go_sem] theorem f66_nt : Try.f66.ntmps = 5 := by kernel_rfl
@[go_sem] theorem f67_en : entersB Try.prog 67 = true := by kernel_rfl
@[go_sem] theorem f67_rs : Try.f67.results.toList = [.tmp 4] := by kernel_rfl
@[go_sem] theorem f67_nt : Try.f67.ntmps = 16 := by kernel_rfl
@[go_sem] theorem f68_en : entersB Try.prog 68 = true := by kernel_rfl
@[go_sem] theorem f68_rs : Try.f68.results.toList = [.tmp 2] := by kernel_rfl
@[go_sem] theorem f68_nt : Try.f68.ntmps = 28 := by kernel_rfl
@[go_sem] theorem f69_en : entersB Try.prog 69 = true := by kernel_rfl
@[go_sem] theorem f69_rs : Try.f69.results.toList = [.tmp 2] := by kernel_rfl
@[go_sem] theorem f69_nt : Try.f69.ntmps = 21 := by kernel_rfl
@[go_sem] theorem f70_en : entersB Try.prog 70 = true := by kernel_rfl
@[go_sem] theorem f70_rs : Try.f70.results.toList = [.tmp 4] := by kernel_rfl
@[go_sem] theorem f70_nt : Try.f70.ntmps = 18 := by kernel_rfl
@[go_sem] theorem f71_en : entersB Try.prog 71 = true := by kernel_rfl
@[go_sem] theorem f71_rs : Try.f71.results.toList = [] := by kernel_rfl
@[go_sem] theorem f71_nt : Try.f71.ntmps = 13 := by kernel_rfl
@[go_sem] theorem f72_en : entersB Try.prog 72 = true := by kernel_rfl
@[go_sem] theorem f72_rs : Try.f72.results.toList = [.tmp 2, .tmp 3] := by kernel_rfl
@[go_sem] theorem f72_nt : Try.f72.ntmps = 34 := by kernel_rfl
@[go_sem] theorem f74_en : entersB Try.prog 74 = true := by kernel_rfl
@[go_sem] theorem f74_rs : Try.f74.results.toList = [] := by kernel_rfl
@[go_sem] theorem f74_nt : Try.f74.ntmps = 10 := by kernel_rfl
@[go_sem] theorem f75_en : entersB Try.prog 75 = true := by kernel_rfl
@[go_sem] theorem f75_rs : Try.f75.results.toList = [.tmp 2, .tmp 3, .tmp 4] := by kernel_rfl
@[go_sem] theorem f75_nt : Try.f75.ntmps = 49 := by kernel_rfl
@[go_sem] theorem f76_en : entersB Try.prog 76 = true := by kernel_rfl
@[go_sem] theorem f76_rs : Try.f76.results.toList = [.tmp 4] := by kernel_rfl
@[go_sem] theorem f76_nt : Try.f76.ntmps = 30 := by kernel_rfl
@[go_sem] theorem f77_en : entersB Try.prog 77 = true := by kernel_rfl
@[go_sem] theorem f77_rs : Try.f77.results.toList = [.tmp 2] := by kernel_rfl
@[go_sem] theorem f77_nt : Try.f77.ntmps = 36 := by kernel_rfl
@[go_sem] theorem f78_en : entersB Try.prog 78 = true := by kernel_rfl
@[go_sem] theorem f78_rs : Try.f78.results.toList = [.tmp 6] := by kernel_rfl
@[go_sem] theorem f78_nt : Try.f78.ntmps = 19 := by kernel_rfl
@[go_sem] theorem f79_en : entersB Try.prog 79 = true := by kernel_rfl
@[go_sem] theorem f79_rs : Try.f79.results.toList = [.tmp 4] := by kernel_rfl
@[go_sem] theorem f79_nt : Try.f79.ntmps = 49 := by kernel_rfl
@[go_sem] theorem f80_en : entersB Try.prog 80 = true := by kernel_rfl
@[go_sem] theorem f80_rs : Try.f80.results.toList = [.tmp 6] := by kernel_rfl
@[go_sem] theorem f80_nt : Try.f80.ntmps = 18 := by kernel_rfl
@[go_sem] theorem f81_en : entersB Try.prog 81 = true := by kernel_rfl
@[go_sem] theorem f81_rs : Try.f81.results.toList = [.tmp 4] := by kernel_rfl
@[go_sem] theorem f81_nt : Try.f81.ntmps = 42 := by kernel_rfl
@[go_sem] theorem f82_en : entersB Try.prog 82 = true := by kernel_rfl
@[go_sem] theorem f82_rs : Try.f82.results.toList = [.tmp 4, .tmp 5, .tmp 6] := by kernel_rfl
@[go_sem] theorem f82_nt : Try.f82.ntmps = 76 := by kernel_rfl
@[go_sem] theorem f83_en : entersB Try.prog 83 = true := by kernel_rfl
@[go_sem] theorem f83_rs : Try.f83.results.toList = [.tmp 4] := by kernel_rfl
@[go_sem] theorem f83_nt : Try.f83.ntmps = 27 := by kernel_rfl
@[go_sem] theorem f84_en : entersB Try.prog 84 = true := by kernel_rfl
@[go_sem] theorem f84_rs : Try.f84.results.toList = [] := by kernel_rfl
@[go_sem] theorem f84_nt : Try.f84.ntmps = 148 := by kernel_rfl
@[go_sem] theorem f85_en : entersB Try.prog 85 = true := by kernel_rfl
@[go_sem] theorem f85_rs : Try.f85.results.toList = [.tmp 2] := by kernel_rfl
@[go_sem] theorem f85_nt : Try.f85.ntmps = 8 := by kernel_rfl
@[go_sem] theorem f86_en : entersB Try.prog 86 = true := by kernel_rfl
@[go_sem] theorem f86_rs : Try.f86.results.toList = [.tmp 2] := by kernel_rfl
@[go_sem] theorem f86_nt : Try.f86.ntmps = 18 := by kernel_rfl
@[go_sem] theorem f87_en : entersB Try.prog 87 = true := by kernel_rfl
@[go_sem] theorem f87_rs : Try.f87.results.toList = [.tmp 4] := by kernel_rfl
@[go_sem] theorem f87_nt : Try.f87.ntmps = 20 := by kernel_rfl
@[go_sem] theorem f88_en : entersB Try.prog 88 = true := by kernel_rfl
@[go_sem] theorem f88_rs : Try.f88.results.toList = [.tmp 2] := by kernel_rfl
@[go_sem] theorem f88_nt : Try.f88.ntmps = 14 := by kernel_rfl
@[go_sem] theorem f89_en : entersB Try.prog 89 = true := by kernel_rfl
@[go_sem] theorem f89_rs : Try.f89.results.toList = [.tmp 4] := by kernel_rfl
@[go_sem] theorem f89_nt : Try.f89.ntmps = 15 := by kernel_rfl
@[go_sem] theorem f90_en : entersB Try.prog 90 = true := by kernel_rfl
@[go_sem] theorem f90_rs : Try.f90.results.toList = [.tmp 4] := by kernel_rfl
@[go_sem] theorem f90_nt : Try.f90.ntmps = 19 := by kernel_rfl
@[go_sem] theorem f91_en : entersB Try.prog 91 = true := by kernel_rfl
@[go_sem] theorem f91_rs : Try.f91.results.toList = [.tmp 4] := by kernel_rfl
@[go_sem] theorem f91_nt : Try.f91.ntmps = 8 := by kernel_rfl
@[go_sem] theorem f92_en : entersB Try.prog 92 = true := by kernel_rfl
@[go_sem] theorem f92_rs : Try.f92.results.toList = [] := by kernel_rfl
@[go_sem] theorem f92_nt : Try.f92.ntmps = 14 := by kernel_rfl
@[go_sem] theorem f93_en : entersB Try.prog 93 = true := by kernel_rfl
@[go_sem] theorem f93_rs : Try.f93.results.toList = [.tmp 4] := by kernel_rfl
@[go_sem] theorem f93_nt : Try.f93.ntmps = 16 := by kernel_rfl
@[go_sem] theorem f94_en : entersB Try.prog 94 = true := by kernel_rfl
@[go_sem] theorem f94_rs : Try.f94.results.toList = [.tmp 4] := by kernel_rfl
@[go_sem] theorem f94_nt : Try.f94.ntmps = 27 := by kernel_rfl
@[go_sem] theorem f95_en : entersB Try.prog 95 = true := by kernel_rfl
@[go_sem] theorem f95_rs : Try.f95.results.toList = [.tmp 4] := by kernel_rfl
@[go_sem] theorem f95_nt : Try.f95.ntmps = 9 := by kernel_rfl
@[go_sem] theorem f96_en : entersB Try.prog 96 = true := by kernel_rfl
@[go_sem] theorem f96_rs : Try.f96.results.toList = [.tmp 2] := by kernel_rfl
@[go_sem] theorem f96_nt : Try.f96.ntmps = 33 := by kernel_rfl
@[go_sem] theorem f97_en : entersB Try.prog 97 = true := by kernel_rfl
@[go_sem] theorem f97_rs : Try.f97.results.toList = [] := by kernel_rfl
@[go_sem] theorem f97_nt : Try.f97.ntmps = 53 := by kernel_rfl
@[go_sem] theorem f98_en : entersB Try.prog 98 = true := by kernel_rfl
@[go_sem] theorem f98_rs : Try.f98.results.toList = [] := by kernel_rfl
@[go_sem] theorem f98_nt : Try.f98.ntmps = 60 := by kernel_rfl
@[go_sem] theorem f99_en : entersB Try.prog 99 = true := by kernel_rfl
@[go_sem] theorem f99_rs : Try.f99.results.toList = [] := by kernel_rfl
@[go_sem] theorem f99_nt : Try.f99.ntmps = 67 := by kernel_rfl
@[go_sem] theorem f100_en : entersB Try.prog 100 = true := by kernel_rfl
@[go_sem] theorem f100_rs : Try.f100.results.toList = [.tmp 8, .tmp 9] := by kernel_rfl
@[go_sem] theorem f100_nt : Try.f100.ntmps = 63 := by kernel_rfl
@[go_sem] theorem f101_en : entersB Try.prog 101 = true := by kernel_rfl
@[go_sem] theorem f101_rs : Try.f101.results.toList = [] := by kernel_rfl
@[go_sem] theorem f101_nt : Try.f101.ntmps = 34 := by kernel_rfl
@[go_sem] theorem f102_en : entersB Try.prog 102 = true := by kernel_rfl
@[go_sem] theorem f102_rs : Try.f102.results.toList = [.tmp 8] := by kernel_rfl
@[go_sem] theorem f102_nt : Try.f102.ntmps = 141 := by kernel_rfl
@[go_sem] theorem f103_en : entersB Try.prog 103 = true := by kernel_rfl
@[go_sem] theorem f103_rs : Try.f103.results.toList = [.tmp 10] := by kernel_rfl
@[go_sem] theorem f103_nt : Try.f103.ntmps = 90 := by kernel_rfl
@[go_sem] theorem f104_en : entersB Try.prog 104 = true := by kernel_rfl
@[go_sem] theorem f104_rs : Try.f104.results.toList = [.tmp 10, .tmp 11] := by kernel_rfl
@[go_sem] theorem f104_nt : Try.f104.ntmps = 178 := by kernel_rfl
@[go_sem] theorem f105_en : entersB Try.prog 105 = true := by kernel_rfl
@[go_sem] theorem f105_rs : Try.f105.results.toList = [.tmp 2] := by kernel_rfl
@[go_sem] theorem f105_nt : Try.f105.ntmps = 19 := by kernel_rfl
@[go_sem] theorem f106_en : entersB Try.prog 106 = true := by kernel_rfl
@[go_sem] theorem f106_rs : Try.f106.results.toList = [.tmp 2] := by kernel_rfl
@[go_sem] theorem f106_nt : Try.f106.ntmps = 25 := by kernel_rfl
@[go_sem] theorem f107_en : entersB Try.prog 107 = true := by kernel_rfl
@[go_sem] theorem f107_rs : Try.f107.results.toList = [.tmp 2] := by kernel_rfl
@[go_sem] theorem f107_nt : Try.f107.ntmps = 6 := by kernel_rfl
@[go_sem] theorem f108_en : entersB Try.prog 108 = true := by kernel_rfl
@[go_sem] theorem f108_rs : Try.f108.results.toList = [.tmp 4] := by kernel_rfl
@[go_sem] theorem f108_nt : Try.f108.ntmps = 8 := by kernel_rfl
@[go_sem] theorem f109_en : entersB Try.prog 109 = true := by kernel_rfl
@[go_sem] theorem f109_rs : Try.f109.results.toList = [] := by kernel_rfl
@[go_sem] theorem f109_nt : Try.f109.ntmps = 28 := by kernel_rfl
@[go_sem] theorem f110_en : entersB Try.prog 110 = true := by kernel_rfl
@[go_sem] theorem f110_rs : Try.f110.results.toList = [] := by kernel_rfl
@[go_sem] theorem f110_nt : Try.f110.ntmps = 31 := by kernel_rfl
@[go_sem] theorem f111_en : entersB Try.prog 111 = true := by kernel_rfl
@[go_sem] theorem f111_rs : Try.f111.results.toList = [.tmp 4, .tmp 5, .tmp 6] := by kernel_rfl
@[go_sem] theorem f111_nt : Try.f111.ntmps = 59 := by kernel_rfl
@[go_sem] theorem f112_en : entersB Try.prog 112 = true := by kernel_rfl
@[go_sem] theorem f112_rs : Try.f112.results.toList = [] := by kernel_rfl
@[go_sem] theorem f112_nt : Try.f112.ntmps = 82 := by kernel_rfl
@[go_sem] theorem f113_en : entersB Try.prog 113 = true := by kernel_rfl
@[go_sem] theorem f113_rs : Try.f113.results.toList = [.tmp 2] := by kernel_rfl
@[go_sem] theorem f113_nt : Try.f113.ntmps = 7 := by kernel_rfl
@[go_sem] theorem f114_en : entersB Try.prog 114 = true := by kernel_rfl
@[go_sem] theorem f114_rs : Try.f114.results.toList = [.tmp 2] := by kernel_rfl
@[go_sem] theorem f114_nt : Try.f114.ntmps = 33 := by kernel_rfl
@[go_sem] theorem f115_en : entersB Try.prog 115 = true := by kernel_rfl
@[go_sem] theorem f115_rs : Try.f115.results.toList = [.tmp 8] := by kernel_rfl
@[go_sem] theorem f115_nt : Try.f115.ntmps = 18 := by kernel_rfl
@[go_sem] theorem f116_en : entersB Try.prog 116 = true := by kernel_rfl
@[go_sem] theorem f116_rs : Try.f116.results.toList = [.tmp 12] := by kernel_rfl
@[go_sem] theorem f116_nt : Try.f116.ntmps = 41 := by kernel_rfl
@[go_sem] theorem f118_en : entersB Try.prog 118 = true := by kernel_rfl
@[go_sem] theorem f118_rs : Try.f118.results.toList = [.tmp 10, .tmp 11] := by kernel_rfl
@[go_sem] theorem f118_nt : Try.f118.ntmps = 32 := by kernel_rfl
@[go_sem] theorem f0_en : entersB Try.prog 0 = false := by kernel_rfl
@[go_sem] theorem f1_en : entersB Try.prog 1 = false := by kernel_rfl
@[go_sem] theorem f73_en : entersB Try.prog 73 = false := by kernel_rfl
@[go_sem] theorem f117_en : entersB Try.prog 117 = false := by kernel_rfl
@[go_sem] theorem f119_en : entersB Try.prog 119 = false := by kernel_rfl
@[go_sem] theorem f120_en : entersB Try.prog 120 = false := by kernel_rfl
@[go_sem] theorem f121_en : entersB Try.prog 121 = false := by kernel_rfl
@[go_sem] theorem f122_en : entersB Try.prog 122 = false := by kernel_rfl
@[go_sem] theorem f123_en : entersB Try.prog 123 = false := by kernel_rfl
@[go_sem] theorem f124_en : entersB Try.prog 124 = false := by kernel_rfl
@[go_sem] theorem f125_en : entersB Try.prog 125 = false := by kernel_rfl
@[go_sem] theorem f126_en : entersB Try.prog 126 = false := by kernel_rfl
@[go_sem] theorem f127_en : entersB Try.prog 127 = false := by kernel_rfl
@[go_sem] theorem f128_en : entersB Try.prog 128 = false := by kernel_rfl
@[go_sem] theorem f129_en : entersB Try.prog 129 = false := by kernel_rfl
@[go_sem] theorem f130_en : entersB Try.prog 130 = false := by kernel_rfl
@[go_sem] theorem f131_en : entersB Try.prog 131 = false := by kernel_rfl
@[go_sem] theorem f132_en : entersB Try.prog 132 = false := by kernel_rfl
@[go_sem] theorem f133_en : entersB Try.prog 133 = false := by kernel_rfl
@[go_sem] theorem f134_en : entersB Try.prog 134 = false := by kernel_rfl
@[go_sem] theorem f135_en : entersB Try.prog 135 = false := by kernel_rfl
end Go.Proofs.Ytmmjphncnnmdaaa
