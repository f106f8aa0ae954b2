/- Facts on the types. No condition. -/
import Derived.Test.YtlnfiflbpmicgaaGreatDoorProg
import Derived.Test.YtlnfiflbpmicgaaGreatDoorHCoreC
namespace Go.Proofs.YtlnfiflbpmicgaaGreatDoor
open Go Go.RowKit
@[go_sem] theorem t3_ag : aggT Tryz.prog 3 = false := by kernel_rfl
@[go_sem] theorem t3_sz : szT Tryz.prog 3 = 1 := by kernel_rfl
@[go_sem] theorem t3_in : (Tryz.prog.info? 3).isSome = true := by kernel_rfl
@[go_sem] theorem t3_un : (Tryz.prog.underlying 3).isSome = true := by kernel_rfl
@[go_sem] theorem t3_ze : zeroT Tryz.prog 3 = some [.int .i64 0] := by kernel_rfl
@[go_sem] theorem t3_by : Tryz.prog.bytesOf 3 = 8 := by kernel_rfl
@[go_sem] theorem t4_sz : szT Tryz.prog 4 = 1 := by kernel_rfl
@[go_sem] theorem t4_in : (Tryz.prog.info? 4).isSome = true := by kernel_rfl
@[go_sem] theorem t5_ag : aggT Tryz.prog 5 = false := by kernel_rfl
@[go_sem] theorem t5_sz : szT Tryz.prog 5 = 1 := by kernel_rfl
@[go_sem] theorem t5_in : (Tryz.prog.info? 5).isSome = true := by kernel_rfl
@[go_sem] theorem t5_un : (Tryz.prog.underlying 5).isSome = true := by kernel_rfl
@[go_sem] theorem t9_ag : aggT Tryz.prog 9 = false := by kernel_rfl
@[go_sem] theorem t9_sz : szT Tryz.prog 9 = 1 := by kernel_rfl
@[go_sem] theorem t9_in : (Tryz.prog.info? 9).isSome = true := by kernel_rfl
@[go_sem] theorem t9_ze : zeroT Tryz.prog 9 = some [.str ⟨#[]⟩] := by kernel_rfl
@[go_sem] theorem t21_un : (Tryz.prog.underlying 21).isSome = true := by kernel_rfl
@[go_sem] theorem t22_ag : aggT Tryz.prog 22 = false := by kernel_rfl
@[go_sem] theorem t22_sz : szT Tryz.prog 22 = 1 := by kernel_rfl
@[go_sem] theorem t22_in : (Tryz.prog.info? 22).isSome = true := by kernel_rfl
@[go_sem] theorem t22_un : (Tryz.prog.underlying 22).isSome = true := by kernel_rfl
@[go_sem] theorem t22_ze : zeroT Tryz.prog 22 = some [.sl none 0] := by kernel_rfl
@[go_sem] theorem t23_ag : aggT Tryz.prog 23 = false := by kernel_rfl
@[go_sem] theorem t23_sz : szT Tryz.prog 23 = 1 := by kernel_rfl
@[go_sem] theorem t23_in : (Tryz.prog.info? 23).isSome = true := by kernel_rfl
@[go_sem] theorem t23_un : (Tryz.prog.underlying 23).isSome = true := by kernel_rfl
@[go_sem] theorem t25_ze : zeroT Tryz.prog 25 = some [.sl none 0, .int .i64 0] := by kernel_rfl
@[go_sem] theorem t25_fo : fieldsOk Tryz.prog 25 = true := by kernel_rfl
@[go_sem] theorem t27_ag : aggT Tryz.prog 27 = false := by kernel_rfl
@[go_sem] theorem t27_sz : szT Tryz.prog 27 = 1 := by kernel_rfl
@[go_sem] theorem t27_in : (Tryz.prog.info? 27).isSome = true := by kernel_rfl
@[go_sem] theorem t27_un : (Tryz.prog.underlying 27).isSome = true := by kernel_rfl
@[go_sem] theorem t31_ag : aggT Tryz.prog 31 = true := by kernel_rfl
@[go_sem] theorem t31_sz : szT Tryz.prog 31 = 2 := by kernel_rfl
@[go_sem] theorem t31_in : (Tryz.prog.info? 31).isSome = true := by kernel_rfl
@[go_sem] theorem t31_un : (Tryz.prog.underlying 31).isSome = true := by kernel_rfl
@[go_sem] theorem t31_ze : zeroT Tryz.prog 31 = some [.int .i64 0, .int .i64 0] := by kernel_rfl
@[go_sem] theorem t31_fo : fieldsOk Tryz.prog 31 = true := by kernel_rfl
@[go_sem] theorem t34_ag : aggT Tryz.prog 34 = true := by kernel_rfl
@[go_sem] theorem t34_sz : szT Tryz.prog 34 = 3 := by kernel_rfl
@[go_sem] theorem t34_in : (Tryz.prog.info? 34).isSome = true := by kernel_rfl
@[go_sem] theorem t34_un : (Tryz.prog.underlying 34).isSome = true := by kernel_rfl
@[go_sem] theorem t34_ze : zeroT Tryz.prog 34 = some [.int .i64 0, .int .i64 0, .int .i64 0] := by kernel_rfl
@[go_sem] theorem t34_fo : fieldsOk Tryz.prog 34 = true := by kernel_rfl
@[go_sem] theorem t35_ag : aggT Tryz.prog 35 = false := by kernel_rfl
@[go_sem] theorem t35_sz : szT Tryz.prog 35 = 1 := by kernel_rfl
@[go_sem] theorem t35_in : (Tryz.prog.info? 35).isSome = true := by kernel_rfl
@[go_sem] theorem t35_un : (Tryz.prog.underlying 35).isSome = true := by kernel_rfl
@[go_sem] theorem t35_ze : zeroT Tryz.prog 35 = some [.int .i64 0] := by kernel_rfl
@[go_sem] theorem t57_ag : aggT Tryz.prog 57 = false := by kernel_rfl
@[go_sem] theorem t57_sz : szT Tryz.prog 57 = 1 := by kernel_rfl
@[go_sem] theorem t57_in : (Tryz.prog.info? 57).isSome = true := by kernel_rfl
@[go_sem] theorem t57_un : (Tryz.prog.underlying 57).isSome = true := by kernel_rfl
@[go_sem] theorem t57_ze : zeroT Tryz.prog 57 = some [.sl none 0] := by kernel_rfl
@[go_sem] theorem t81_ag : aggT Tryz.prog 81 = true := by kernel_rfl
@[go_sem] theorem t81_sz : szT Tryz.prog 81 = 2 := by kernel_rfl
@[go_sem] theorem t81_in : (Tryz.prog.info? 81).isSome = true := by kernel_rfl
@[go_sem] theorem t81_un : (Tryz.prog.underlying 81).isSome = true := by kernel_rfl
@[go_sem] theorem t89_ag : aggT Tryz.prog 89 = false := by kernel_rfl
@[go_sem] theorem t89_sz : szT Tryz.prog 89 = 1 := by kernel_rfl
@[go_sem] theorem t89_in : (Tryz.prog.info? 89).isSome = true := by kernel_rfl
@[go_sem] theorem t89_un : (Tryz.prog.underlying 89).isSome = true := by kernel_rfl
@[go_sem] theorem t92_ag : aggT Tryz.prog 92 = true := by kernel_rfl
@[go_sem] theorem t92_sz : szT Tryz.prog 92 = 2 := by kernel_rfl
@[go_sem] theorem t92_in : (Tryz.prog.info? 92).isSome = true := by kernel_rfl
@[go_sem] theorem t92_un : (Tryz.prog.underlying 92).isSome = true := by kernel_rfl
@[go_sem] theorem t92_ze : zeroT Tryz.prog 92 = some [.str ⟨#[]⟩, .sl none 0] := by kernel_rfl
@[go_sem] theorem t92_fo : fieldsOk Tryz.prog 92 = true := by kernel_rfl
@[go_sem] theorem t94_ag : aggT Tryz.prog 94 = false := by kernel_rfl
@[go_sem] theorem t94_sz : szT Tryz.prog 94 = 1 := by kernel_rfl
@[go_sem] theorem t94_in : (Tryz.prog.info? 94).isSome = true := by kernel_rfl
@[go_sem] theorem t94_un : (Tryz.prog.underlying 94).isSome = true := by kernel_rfl
@[go_sem] theorem t94_ze : zeroT Tryz.prog 94 = some [.ptr none] := by kernel_rfl
@[go_sem] theorem t98_ag : aggT Tryz.prog 98 = true := by kernel_rfl
@[go_sem] theorem t98_sz : szT Tryz.prog 98 = 2 := by kernel_rfl
@[go_sem] theorem t98_in : (Tryz.prog.info? 98).isSome = true := by kernel_rfl
@[go_sem] theorem t98_un : (Tryz.prog.underlying 98).isSome = true := by kernel_rfl
@[go_sem] theorem t98_ze : zeroT Tryz.prog 98 = some [.int .i64 0, .int .i64 0] := by kernel_rfl
@[go_sem] theorem t98_fo : fieldsOk Tryz.prog 98 = true := by kernel_rfl
@[go_sem] theorem t100_ag : aggT Tryz.prog 100 = false := by kernel_rfl
@[go_sem] theorem t100_sz : szT Tryz.prog 100 = 1 := by kernel_rfl
@[go_sem] theorem t100_in : (Tryz.prog.info? 100).isSome = true := by kernel_rfl
@[go_sem] theorem t100_un : (Tryz.prog.underlying 100).isSome = true := by kernel_rfl
@[go_sem] theorem t116_ag : aggT Tryz.prog 116 = false := by kernel_rfl
@[go_sem] theorem t116_sz : szT Tryz.prog 116 = 1 := by kernel_rfl
@[go_sem] theorem t116_in : (Tryz.prog.info? 116).isSome = true := by kernel_rfl
@[go_sem] theorem t116_un : (Tryz.prog.underlying 116).isSome = true := by kernel_rfl
@[go_sem] theorem t118_ag : aggT Tryz.prog 118 = true := by kernel_rfl
@[go_sem] theorem t118_sz : szT Tryz.prog 118 = 5 := by kernel_rfl
@[go_sem] theorem t118_in : (Tryz.prog.info? 118).isSome = true := by kernel_rfl
@[go_sem] theorem t118_un : (Tryz.prog.underlying 118).isSome = true := by kernel_rfl
@[go_sem] theorem t118_ze : zeroT Tryz.prog 118 = some [.int .u8 0, .str ⟨#[]⟩, .int .i64 0, .sl none 0, .int .i64 0] := by kernel_rfl
@[go_sem] theorem t118_fo : fieldsOk Tryz.prog 118 = true := by kernel_rfl
@[go_sem] theorem t123_ag : aggT Tryz.prog 123 = true := by kernel_rfl
@[go_sem] theorem t123_sz : szT Tryz.prog 123 = 2 := by kernel_rfl
@[go_sem] theorem t123_in : (Tryz.prog.info? 123).isSome = true := by kernel_rfl
@[go_sem] theorem t123_un : (Tryz.prog.underlying 123).isSome = true := by kernel_rfl
@[go_sem] theorem t123_ze : zeroT Tryz.prog 123 = some [.int .i64 0, .int .i64 0] := by kernel_rfl
@[go_sem] theorem t123_fo : fieldsOk Tryz.prog 123 = true := by kernel_rfl
@[go_sem] theorem t194_ag : aggT Tryz.prog 194 = true := by kernel_rfl
@[go_sem] theorem t194_sz : szT Tryz.prog 194 = 3 := by kernel_rfl
@[go_sem] theorem t194_in : (Tryz.prog.info? 194).isSome = true := by kernel_rfl
@[go_sem] theorem t194_un : (Tryz.prog.underlying 194).isSome = true := by kernel_rfl
@[go_sem] theorem t194_ze : zeroT Tryz.prog 194 = some [.int .i64 0, .int .i64 0, .str ⟨#[]⟩] := by kernel_rfl
@[go_sem] theorem t194_fo : fieldsOk Tryz.prog 194 = true := by kernel_rfl
@[go_sem] theorem t196_ze : zeroT Tryz.prog 196 = some [.str ⟨#[]⟩, .int .i64 0, .int .i64 0, .str ⟨#[]⟩, .int .i64 0, .int .i64 0, .int .i64 0] := by kernel_rfl
@[go_sem] theorem t196_fo : fieldsOk Tryz.prog 196 = true := by kernel_rfl
@[go_sem] theorem t199_ag : aggT Tryz.prog 199 = false := by kernel_rfl
@[go_sem] theorem t199_sz : szT Tryz.prog 199 = 1 := by kernel_rfl
@[go_sem] theorem t199_in : (Tryz.prog.info? 199).isSome = true := by kernel_rfl
@[go_sem] theorem t199_un : (Tryz.prog.underlying 199).isSome = true := by kernel_rfl
@[go_sem] theorem t201_ze : zeroT Tryz.prog 201 = some [.str ⟨#[]⟩, .int .i64 0, .str ⟨#[]⟩, .sl none 0, .bool false] := by kernel_rfl
@[go_sem] theorem t201_fo : fieldsOk Tryz.prog 201 = true := by kernel_rfl
@[go_sem] theorem t216_ag : aggT Tryz.prog 216 = false := by kernel_rfl
@[go_sem] theorem t216_sz : szT Tryz.prog 216 = 1 := by kernel_rfl
@[go_sem] theorem t216_in : (Tryz.prog.info? 216).isSome = true := by kernel_rfl
@[go_sem] theorem t216_un : (Tryz.prog.underlying 216).isSome = true := by kernel_rfl
@[go_sem] theorem t217_ag : aggT Tryz.prog 217 = false := by kernel_rfl
@[go_sem] theorem t217_sz : szT Tryz.prog 217 = 1 := by kernel_rfl
@[go_sem] theorem t217_in : (Tryz.prog.info? 217).isSome = true := by kernel_rfl
@[go_sem] theorem t217_un : (Tryz.prog.underlying 217).isSome = true := by kernel_rfl
@[go_sem] theorem t220_ze : zeroT Tryz.prog 220 = some [.sl none 0, .int .i64 0, .int .i64 0, .int .i64 0] := by kernel_rfl
@[go_sem] theorem t220_fo : fieldsOk Tryz.prog 220 = true := by kernel_rfl
@[go_sem] theorem t273_un : (Tryz.prog.underlying 273).isSome = true := by kernel_rfl
@[go_sem] theorem t292_ag : aggT Tryz.prog 292 = true := by kernel_rfl
@[go_sem] theorem t292_sz : szT Tryz.prog 292 = 3 := by kernel_rfl
@[go_sem] theorem t292_in : (Tryz.prog.info? 292).isSome = true := by kernel_rfl
@[go_sem] theorem t292_un : (Tryz.prog.underlying 292).isSome = true := by kernel_rfl
@[go_sem] theorem t292_ze : zeroT Tryz.prog 292 = some [.int .u8 0, .str ⟨#[]⟩, .int .i64 0] := by kernel_rfl
@[go_sem] theorem t292_fo : fieldsOk Tryz.prog 292 = true := by kernel_rfl
@[go_sem] theorem t25_f0 : fieldT Tryz.prog 25 0 = some (0, 1) := by kernel_rfl
@[go_sem] theorem t25_f1 : fieldT Tryz.prog 25 1 = some (1, 1) := by kernel_rfl
@[go_sem] theorem t31_f0 : fieldT Tryz.prog 31 0 = some (0, 1) := by kernel_rfl
@[go_sem] theorem t31_f1 : fieldT Tryz.prog 31 1 = some (1, 1) := by kernel_rfl
@[go_sem] theorem t34_f0 : fieldT Tryz.prog 34 0 = some (0, 1) := by kernel_rfl
@[go_sem] theorem t34_f1 : fieldT Tryz.prog 34 1 = some (1, 1) := by kernel_rfl
@[go_sem] theorem t34_f2 : fieldT Tryz.prog 34 2 = some (2, 1) := by kernel_rfl
@[go_sem] theorem t81_f0 : fieldT Tryz.prog 81 0 = some (0, 1) := by kernel_rfl
@[go_sem] theorem t92_f0 : fieldT Tryz.prog 92 0 = some (0, 1) := by kernel_rfl
@[go_sem] theorem t92_f1 : fieldT Tryz.prog 92 1 = some (1, 1) := by kernel_rfl
@[go_sem] theorem t98_f0 : fieldT Tryz.prog 98 0 = some (0, 1) := by kernel_rfl
@[go_sem] theorem t98_f1 : fieldT Tryz.prog 98 1 = some (1, 1) := by kernel_rfl
@[go_sem] theorem t118_f0 : fieldT Tryz.prog 118 0 = some (0, 1) := by kernel_rfl
@[go_sem] theorem t118_f1 : fieldT Tryz.prog 118 1 = some (1, 1) := by kernel_rfl
@[go_sem] theorem t118_f2 : fieldT Tryz.prog 118 2 = some (2, 1) := by kernel_rfl
@[go_sem] theorem t118_f3 : fieldT Tryz.prog 118 3 = some (3, 1) := by kernel_rfl
@[go_sem] theorem t118_f4 : fieldT Tryz.prog 118 4 = some (4, 1) := by kernel_rfl
@[go_sem] theorem t123_f0 : fieldT Tryz.prog 123 0 = some (0, 1) := by kernel_rfl
@[go_sem] theorem t123_f1 : fieldT Tryz.prog 123 1 = some (1, 1) := by kernel_rfl
@[go_sem] theorem t194_f0 : fieldT Tryz.prog 194 0 = some (0, 1) := by kernel_rfl
@[go_sem] theorem t194_f1 : fieldT Tryz.prog 194 1 = some (1, 1) := by kernel_rfl
@[go_sem] theorem t194_f2 : fieldT Tryz.prog 194 2 = some (2, 1) := by kernel_rfl
@[go_sem] theorem t196_f0 : fieldT Tryz.prog 196 0 = some (0, 1) := by kernel_rfl
@[go_sem] theorem t196_f1 : fieldT Tryz.prog 196 1 = some (1, 3) := by kernel_rfl
@[go_sem] theorem t196_f2 : fieldT Tryz.prog 196 2 = some (4, 1) := by kernel_rfl
@[go_sem] theorem t196_f3 : fieldT Tryz.prog 196 3 = some (5, 1) := by kernel_rfl
@[go_sem] theorem t196_f4 : fieldT Tryz.prog 196 4 = some (6, 1) := by kernel_rfl
@[go_sem] theorem t201_f0 : fieldT Tryz.prog 201 0 = some (0, 1) := by kernel_rfl
@[go_sem] theorem t201_f1 : fieldT Tryz.prog 201 1 = some (1, 1) := by kernel_rfl
@[go_sem] theorem t201_f2 : fieldT Tryz.prog 201 2 = some (2, 1) := by kernel_rfl
@[go_sem] theorem t201_f3 : fieldT Tryz.prog 201 3 = some (3, 1) := by kernel_rfl
@[go_sem] theorem t201_f4 : fieldT Tryz.prog 201 4 = some (4, 1) := by kernel_rfl
@[go_sem] theorem t220_f0 : fieldT Tryz.prog 220 0 = some (0, 1) := by kernel_rfl
@[go_sem] theorem t220_f1 : fieldT Tryz.prog 220 1 = some (1, 1) := by kernel_rfl
@[go_sem] theorem t220_f2 : fieldT Tryz.prog 220 2 = some (2, 1) := by kernel_rfl
@[go_sem] theorem t220_f3 : fieldT Tryz.prog 220 3 = some (3, 1) := by kernel_rfl
@[go_sem] theorem t292_f0 : fieldT Tryz.prog 292 0 = some (0, 1) := by kernel_rfl
@[go_sem] theorem t292_f1 : fieldT Tryz.prog 292 1 = some (1, 1) := by kernel_rfl
@[go_sem] theorem t292_f2 : fieldT Tryz.prog 292 2 = some (2, 1) := by kernel_rfl
@[go_sem] theorem t9_st : strT Tryz.prog 9 = true := by kernel_rfl
@[go_sem] theorem t9_el : elemT Tryz.prog 9 = none := by kernel_rfl
@[go_sem] theorem t9_us : Tryz.prog.underlying 9 = some .string := by kernel_rfl
@[go_sem] theorem t22_el : elemT Tryz.prog 22 = some 3 := by kernel_rfl
@[go_sem] theorem t22_st : strT Tryz.prog 22 = false := by kernel_rfl
@[go_sem] theorem t27_el : elemT Tryz.prog 27 = some 92 := by kernel_rfl
@[go_sem] theorem t57_el : elemT Tryz.prog 57 = some 9 := by kernel_rfl
@[go_sem] theorem t57_st : strT Tryz.prog 57 = false := by kernel_rfl
@[go_sem] theorem t60_el : elemT Tryz.prog 60 = some 81 := by kernel_rfl
@[go_sem] theorem t89_el : elemT Tryz.prog 89 = some 34 := by kernel_rfl
@[go_sem] theorem t113_el : elemT Tryz.prog 113 = some 35 := by kernel_rfl
@[go_sem] theorem t116_el : elemT Tryz.prog 116 = some 118 := by kernel_rfl
@[go_sem] theorem t199_el : elemT Tryz.prog 199 = some 94 := by kernel_rfl
@[go_sem] theorem t217_el : elemT Tryz.prog 217 = some 292 := by kernel_rfl
@[go_sem] theorem t217_st : strT Tryz.prog 217 = false := by kernel_rfl
@[go_sem] theorem t224_el : elemT Tryz.prog 224 = some 123 := by kernel_rfl
@[go_sem] theorem t3_ik : intK Tryz.prog 3 = some .i64 := by kernel_rfl
@[go_sem] theorem t5_ik : intK Tryz.prog 5 = some .u8 := by kernel_rfl
@[go_sem] theorem t9_ik : intK Tryz.prog 9 = none := by kernel_rfl
@[go_sem] theorem t21_ik : intK Tryz.prog 21 = some .i32 := by kernel_rfl
@[go_sem] theorem t180_un : (Tryz.prog.underlying 180).isSome = true := by kernel_rfl
@[go_sem] theorem t180_ik : intK Tryz.prog 180 = some .u64 := by kernel_rfl
@[go_sem] theorem t3_bt : bytesT Tryz.prog 3 = false := by kernel_rfl
@[go_sem] theorem t5_bt : bytesT Tryz.prog 5 = false := by kernel_rfl
@[go_sem] theorem t9_bt : bytesT Tryz.prog 9 = false := by kernel_rfl
@[go_sem] theorem t21_bt : bytesT Tryz.prog 21 = false := by kernel_rfl
@[go_sem] theorem t180_bt : bytesT Tryz.prog 180 = false := by kernel_rfl
@[go_sem] theorem t273_bt : bytesT Tryz.prog 273 = false := by kernel_rfl
@[go_sem] theorem t98_k1 : fieldK Tryz.prog 98 1 = some (1, 1, false) := by kernel_rfl
@[go_sem] theorem t292_k0 : fieldK Tryz.prog 292 0 = some (0, 1, false) := by kernel_rfl
@[go_sem] theorem t4_kd : kindT Tryz.prog 4 = 1 := by kernel_rfl
@[go_sem] theorem t34_fk : fieldsK Tryz.prog 34 = some [(0, 1), (1, 1), (2, 1)] := by kernel_rfl
@[go_sem] theorem t188_kd : kindT Tryz.prog 188 = 6 := by kernel_rfl
@[go_sem] theorem f3_rs : Tryz.f3.results.toList = [.tmp 2] := by kernel_rfl
@[go_sem] theorem f3_nt : Tryz.f3.ntmps = 127 := by kernel_rfl
@[go_sem] theorem f8_en : entersB Tryz.prog 8 = true := by kernel_rfl
@[go_sem] theorem f8_rs : Tryz.f8.results.toList = [.tmp 2] := by kernel_rfl
@[go_sem] theorem f8_nt : Tryz.f8.ntmps = 49 := by kernel_rfl
@[go_sem] theorem f9_en : entersB Tryz.prog 9 = true := by kernel_rfl
@[go_sem] theorem f9_rs : Tryz.f9.results.toList = [.tmp 2] := by kernel_rfl
@[go_sem] theorem f9_nt : Tryz.f9.ntmps = 54 := by kernel_rfl
@[go_sem] theorem f10_en : entersB Tryz.prog 10 = true := by kernel_rfl
@[go_sem] theorem f10_rs : Tryz.f10.results.toList = [.tmp 2] := by kernel_rfl
@[go_sem] theorem f10_nt : Tryz.f10.ntmps = 6 := by kernel_rfl
@[go_sem] theorem f11_en : entersB Tryz.prog 11 = true := by kernel_rfl
@[go_sem] theorem f11_rs : Tryz.f11.results.toList = [.cell 2 31] := by kernel_rfl
@[go_sem] theorem f11_nt : Tryz.f11.ntmps = 10 := by kernel_rfl
@[go_sem] theorem f12_en : entersB Tryz.prog 12 = true := by kernel_rfl
@[go_sem] theorem f12_rs : Tryz.f12.results.toList = [.cell 6 34, .tmp 7] := by kernel_rfl
@[go_sem] theorem f12_nt : Tryz.f12.ntmps = 39 := by kernel_rfl
@[go_sem] theorem f13_en : entersB Tryz.prog 13 = true := by kernel_rfl
@[go_sem] theorem f13_rs : Tryz.f13.results.toList = [.tmp 2, .tmp 3, .tmp 4] := by kernel_rfl
@[go_sem] theorem f13_nt : Tryz.f13.ntmps = 32 := by kernel_rfl
@[go_sem] theorem f14_en : entersB Tryz.prog 14 = true := by kernel_rfl
@[go_sem] theorem f14_rs : Tryz.f14.results.toList = [.tmp 6, .tmp 7] := by kernel_rfl
@[go_sem] theorem f14_nt : Tryz.f14.ntmps = 46 := by kernel_rfl
@[go_sem] theorem f15_en : entersB Tryz.prog 15 = true := by kernel_rfl
@[go_sem] theorem f15_rs : Tryz.f15.results.toList = [.tmp 2] := by kernel_rfl
@[go_sem] theorem f15_nt : Tryz.f15.ntmps = 11 := by kernel_rfl
@[go_sem] theorem f16_en : entersB Tryz.prog 16 = true := by kernel_rfl
@[go_sem] theorem f16_rs : Tryz.f16.results.toList = [.tmp 2] := by kernel_rfl
@[go_sem] theorem f16_nt : Tryz.f16.ntmps = 15 := by kernel_rfl
@[go_sem] theorem f17_en : entersB Tryz.prog 17 = true := by kernel_rfl
@[go_sem] theorem f17_rs : Tryz.f17.results.toList = [.tmp 2] := by kernel_rfl
@[go_sem] theorem f17_nt : Tryz.f17.ntmps = 33 := by kernel_rfl
@[go_sem] theorem f18_en : entersB Tryz.prog 18 = true := by kernel_rfl
@[go_sem] theorem f18_rs : Tryz.f18.results.toList = [.tmp 2] := by kernel_rfl
@[go_sem] theorem f18_nt : Tryz.f18.ntmps = 6 := by kernel_rfl
@[go_sem] theorem f19_en : entersB Tryz.prog 19 = true := by kernel_rfl
@[go_sem] theorem f19_rs : Tryz.f19.results.toList = [.tmp 2] := by kernel_rfl
@[go_sem] theorem f19_nt : Tryz.f19.ntmps = 14 := by kernel_rfl
@[go_sem] theorem f20_en : entersB Tryz.prog 20 = true := by kernel_rfl
@[go_sem] theorem f20_rs : Tryz.f20.results.toList = [.cell 6 34] := by kernel_rfl
@[go_sem] theorem f20_nt : Tryz.f20.ntmps = 22 := by kernel_rfl
@[go_sem] theorem f21_en : entersB Tryz.prog 21 = true := by kernel_rfl
@[go_sem] theorem f21_rs : Tryz.f21.results.toList = [.tmp 2, .tmp 3] := by kernel_rfl
@[go_sem] theorem f21_nt : Tryz.f21.ntmps = 16 := by kernel_rfl
@[go_sem] theorem f22_en : entersB Tryz.prog 22 = true := by kernel_rfl
@[go_sem] theorem f22_rs : Tryz.f22.results.toList = [.tmp 6] := by kernel_rfl
@[go_sem] theorem f22_nt : Tryz.f22.ntmps = 20 := by kernel_rfl
@[go_sem] theorem f23_en : entersB Tryz.prog 23 = true := by kernel_rfl
@[go_sem] theorem f23_rs : Tryz.f23.results.toList = [.tmp 4] := by kernel_rfl
@[go_sem] theorem f23_nt : Tryz.f23.ntmps = 26 := by kernel_rfl
@[go_sem] theorem f24_en : entersB Tryz.prog 24 = true := by kernel_rfl
@[go_sem] theorem f24_rs : Tryz.f24.results.toList = [.tmp 0] := by kernel_rfl
@[go_sem] theorem f24_nt : Tryz.f24.ntmps = 19 := by kernel_rfl
@[go_sem] theorem f25_en : entersB Tryz.prog 25 = true := by kernel_rfl
@[go_sem] theorem f25_rs : Tryz.f25.results.toList = [.tmp 4] := by kernel_rfl
@[go_sem] theorem f25_nt : Tryz.f25.ntmps = 102 := by kernel_rfl
@[go_sem] theorem f26_en : entersB Tryz.prog 26 = true := by kernel_rfl
@[go_sem] theorem f26_rs : Tryz.f26.results.toList = [.tmp 6] := by kernel_rfl
@[go_sem] theorem f26_nt : Tryz.f26.ntmps = 19 := by kernel_rfl
@[go_sem] theorem f27_en : entersB Tryz.prog 27 = true := by kernel_rfl
@[go_sem] theorem f27_rs : Tryz.f27.results.toList = [.tmp 4] := by kernel_rfl
@[go_sem] theorem f27_nt : Tryz.f27.ntmps = 9 := by kernel_rfl
@[go_sem] theorem f31_en : entersB Tryz.prog 31 = true := by kernel_rfl
@[go_sem] theorem f31_rs : Tryz.f31.results.toList = [.tmp 4] := by kernel_rfl
@[go_sem] theorem f31_nt : Tryz.f31.ntmps = 12 := by kernel_rfl
@[go_sem] theorem f42_en : entersB Tryz.prog 42 = true := by kernel_rfl
@[go_sem] theorem f42_rs : Tryz.f42.results.toList = [.tmp 4] := by kernel_rfl
@[go_sem] theorem f42_nt : Tryz.f42.ntmps = 9 := by kernel_rfl
@[go_sem] theorem f44_en : entersB Tryz.prog 44 = true := by kernel_rfl
@[go_sem] theorem f44_rs : Tryz.f44.results.toList = [.tmp 4] := by kernel_rfl
@[go_sem] theorem f44_nt : Tryz.f44.ntmps = 12 := by kernel_rfl
@[go_sem] theorem f50_en : entersB Tryz.prog 50 = true := by kernel_rfl
@[go_sem] theorem f50_rs : Tryz.f50.results.toList = [.tmp 4] := by kernel_rfl
@[go_sem] theorem f50_nt : Tryz.f50.ntmps = 8 := by kernel_rfl
@[go_sem] theorem f55_en : entersB Tryz.prog 55 = true := by kernel_rfl
@[go_sem] theorem f55_rs : Tryz.f55.results.toList = [.tmp 6] := by kernel_rfl
@[go_sem] theorem f55_nt : Tryz.f55.ntmps = 63 := by kernel_rfl
@[go_sem] theorem f56_en : entersB Tryz.prog 56 = true := by kernel_rfl
@[go_sem] theorem f56_rs : Tryz.f56.results.toList = [.tmp 4] := by kernel_rfl
@[go_sem] theorem f56_nt : Tryz.f56.ntmps = 125 := by kernel_rfl
@[go_sem] theorem f57_en : entersB Tryz.prog 57 = true := by kernel_rfl
@[go_sem] theorem f57_rs : Tryz.f57.results.toList = [.tmp 4] := by kernel_rfl
@[go_sem] theorem f57_nt : Tryz.f57.ntmps = 39 := by kernel_rfl
@[go_sem] theorem f58_en : entersB Tryz.prog 58 = true := by kernel_rfl
@[go_sem] theorem f58_rs : Tryz.f58.results.toList = [.tmp 4] := by kernel_rfl
@[go_sem] theorem f58_nt : Tryz.f58.ntmps = 64 := by kernel_rfl
@[go_sem] theorem f59_en : entersB Tryz.prog 59 = true := by kernel_rfl
@[go_sem] theorem f59_rs : Tryz.f59.results.toList = [.tmp 4] := by kernel_rfl
@[go_sem] theorem f59_nt : Tryz.f59.ntmps = 25 := by kernel_rfl
@[go_sem] theorem f60_en : entersB Tryz.prog 60 = true := by kernel_rfl
@[go_sem] theorem f60_rs : Tryz.f60.results.toList = [.tmp 2, .tmp 3, .tmp 4] := by kernel_rfl
@[go_sem] theorem f60_nt : Tryz.f60.ntmps = 56 := by kernel_rfl
@[go_sem] theorem f61_en : entersB Tryz.prog 61 = true := by kernel_rfl
@[go_sem] theorem f61_rs : Tryz.f61.results.toList = [.tmp 2] := by kernel_rfl
@[go_sem] theorem f61_nt : Tryz.f61.ntmps = 42 := by kernel_rfl
@[go_sem] theorem f62_en : entersB Tryz.prog 62 = true := by kernel_rfl
@[go_sem] theorem f62_rs : Tryz.f62.results.toList = [.tmp 2] := by kernel_rfl
@[go_sem] theorem f62_nt : Tryz.f62.ntmps = 6 := by kernel_rfl
@[go_sem] theorem f63_en : entersB Tryz.prog 63 = true := by kernel_rfl
@[go_sem] theorem f63_rs : Tryz.f63.results.toList = [.cell 6 98] := by kernel_rfl
@[go_sem] theorem f63_nt : Tryz.f63.ntmps = 107 := by kernel_rfl
@[go_sem] theorem f64_en : entersB Tryz.prog 64 = true := by kernel_rfl
@[go_sem] theorem f64_rs : Tryz.f64.results.toList = [.tmp 2] := by kernel_rfl
@[go_sem] theorem f64_nt : Tryz.f64.ntmps = 4 := by kernel_rfl
@[go_sem] theorem f65_en : entersB Tryz.prog 65 = true := by kernel_rfl
@[go_sem] theorem f65_rs : Tryz.f65.results.toList = [.cell 4 34] := by kernel_rfl
@[go_sem] theorem f65_nt : Tryz.f65.ntmps = 16 := by kernel_rfl
@[go_sem] theorem f66_rs : Tryz.f66.results.toList = [.cell 4 98] := by kernel_rfl
@[go_sem] theorem f66_nt : Tryz.f66.ntmps = 6 := by kernel_rfl
@[go_sem] theorem f67_en : entersB Tryz.prog 67 = true := by kernel_rfl
@[go_sem] theorem f67_rs : Tryz.f67.results.toList = [.cell 0 98] := by kernel_rfl
@[go_sem] theorem f67_nt : Tryz.f67.ntmps = 2 := by kernel_rfl
@[go_sem] theorem f68_en : entersB Tryz.prog 68 = true := by kernel_rfl
@[go_sem] theorem f68_rs : Tryz.f68.results.toList = [.tmp 2] := by kernel_rfl
@[go_sem] theorem f68_nt : Tryz.f68.ntmps = 11 := by kernel_rfl
@[go_sem] theorem f69_en : entersB Tryz.prog 69 = true := by kernel_rfl
@[go_sem] theorem f69_rs : Tryz.f69.results.toList = [.tmp 2] := by kernel_rfl
@[go_sem] theorem f69_nt : Tryz.f69.ntmps = 15 := by kernel_rfl
@[go_sem] theorem f70_en : entersB Tryz.prog 70 = true := by kernel_rfl
@[go_sem] theorem f70_rs : Tryz.f70.results.toList = [.tmp 2] := by kernel_rfl
@[go_sem] theorem f70_nt : Tryz.f70.ntmps = 6 := by kernel_rfl
@[go_sem] theorem f71_en : entersB Tryz.prog 71 = true := by kernel_rfl
@[go_sem] theorem f71_rs : Tryz.f71.results.toList = [] := by kernel_rfl
@[go_sem] theorem f71_nt : Tryz.f71.ntmps = 34 := by kernel_rfl
@[go_sem] theorem f72_rs : Tryz.f72.results.toList = [] := by kernel_rfl
@[go_sem] theorem f72_nt : Tryz.f72.ntmps = 31 := by kernel_rfl
@[go_sem] theorem f73_en : entersB Tryz.prog 73 = true := by kernel_rfl
@[go_sem] theorem f73_rs : Tryz.f73.results.toList = [.tmp 4] := by kernel_rfl
@[go_sem] theorem f73_nt : Tryz.f73.ntmps = 20 := by kernel_rfl
@[go_sem] theorem f74_en : entersB Tryz.prog 74 = true := by kernel_rfl
@[go_sem] theorem f74_rs : Tryz.f74.results.toList = [.tmp 4] := by kernel_rfl
@[go_sem] theorem f74_nt : Tryz.f74.ntmps = 15 := by kernel_rfl
@[go_sem] theorem f75_en : entersB Tryz.prog 75 = true := by kernel_rfl
@[go_sem] theorem f75_rs : Tryz.f75.results.toList = [] := by kernel_rfl
@[go_sem] theorem f75_nt : Tryz.f75.ntmps = 11 := by kernel_rfl
@[go_sem] theorem f76_en : entersB Tryz.prog 76 = true := by kernel_rfl
@[go_sem] theorem f76_rs : Tryz.f76.results.toList = [.tmp 2] := by kernel_rfl
@[go_sem] theorem f76_nt : Tryz.f76.ntmps = 61 := by kernel_rfl
@[go_sem] theorem f77_en : entersB Tryz.prog 77 = true := by kernel_rfl
@[go_sem] theorem f77_rs : Tryz.f77.results.toList = [.tmp 2, .tmp 3] := by kernel_rfl
@[go_sem] theorem f77_nt : Tryz.f77.ntmps = 15 := by kernel_rfl
@[go_sem] theorem f78_en : entersB Tryz.prog 78 = true := by kernel_rfl
@[go_sem] theorem f78_rs : Tryz.f78.results.toList = [.tmp 2] := by kernel_rfl
@[go_sem] theorem f78_nt : Tryz.f78.ntmps = 15 := by kernel_rfl
@[go_sem] theorem f79_en : entersB Tryz.prog 79 = true := by kernel_rfl
@[go_sem] theorem f79_rs : Tryz.f79.results.toList = [.tmp 2] := by kernel_rfl
@[go_sem] theorem f79_nt : Tryz.f79.ntmps = 35 := by kernel_rfl
@[go_sem] theorem f80_en : entersB Tryz.prog 80 = true := by kernel_rfl
@[go_sem] theorem f80_rs : Tryz.f80.results.toList = [.tmp 2] := by kernel_rfl
@[go_sem] theorem f80_nt : Tryz.f80.ntmps = 5 := by kernel_rfl
@[go_sem] theorem f81_en : entersB Tryz.prog 81 = true := by kernel_rfl
@[go_sem] theorem f81_rs : Tryz.f81.results.toList = [.tmp 6] := by kernel_rfl
@[go_sem] theorem f81_nt : Tryz.f81.ntmps = 15 := by kernel_rfl
@[go_sem] theorem f82_en : entersB Tryz.prog 82 = true := by kernel_rfl
@[go_sem] theorem f82_rs : Tryz.f82.results.toList = [.cell 2 118, .tmp 3, .tmp 4] := by kernel_rfl
@[go_sem] theorem f82_nt : Tryz.f82.ntmps = 52 := by kernel_rfl
@[go_sem] theorem f83_en : entersB Tryz.prog 83 = true := by kernel_rfl
@[go_sem] theorem f83_rs : Tryz.f83.results.toList = [.cell 4 34] := by kernel_rfl
@[go_sem] theorem f83_nt : Tryz.f83.ntmps = 13 := by kernel_rfl
@[go_sem] theorem f84_en : entersB Tryz.prog 84 = true := by kernel_rfl
@[go_sem] theorem f84_rs : Tryz.f84.results.toList = [.cell 6 123] := by kernel_rfl
@[go_sem] theorem f84_nt : Tryz.f84.ntmps = 103 := by kernel_rfl
@[go_sem] theorem f85_rs : Tryz.f85.results.toList = [.cell 5 123] := by kernel_rfl
@[go_sem] theorem f85_nt : Tryz.f85.ntmps = 10 := by kernel_rfl
@[go_sem] theorem f86_en : entersB Tryz.prog 86 = true := by kernel_rfl
@[go_sem] theorem f86_rs : Tryz.f86.results.toList = [.cell 6 123] := by kernel_rfl
@[go_sem] theorem f86_nt : Tryz.f86.ntmps = 44 := by kernel_rfl
@[go_sem] theorem f87_en : entersB Tryz.prog 87 = true := by kernel_rfl
@[go_sem] theorem f87_rs : Tryz.f87.results.toList = [.tmp 2] := by kernel_rfl
@[go_sem] theorem f87_nt : Tryz.f87.ntmps = 14 := by kernel_rfl
@[go_sem] theorem f88_en : entersB Tryz.prog 88 = true := by kernel_rfl
@[go_sem] theorem f88_rs : Tryz.f88.results.toList = [.tmp 10] := by kernel_rfl
@[go_sem] theorem f88_nt : Tryz.f88.ntmps = 98 := by kernel_rfl
@[go_sem] theorem f89_rs : Tryz.f89.results.toList = [.tmp 2] := by kernel_rfl
@[go_sem] theorem f89_nt : Tryz.f89.ntmps = 7 := by kernel_rfl
@[go_sem] theorem f90_en : entersB Tryz.prog 90 = true := by kernel_rfl
@[go_sem] theorem f90_rs : Tryz.f90.results.toList = [.tmp 4] := by kernel_rfl
@[go_sem] theorem f90_nt : Tryz.f90.ntmps = 8 := by kernel_rfl
@[go_sem] theorem f106_en : entersB Tryz.prog 106 = true := by kernel_rfl
@[go_sem] theorem f106_rs : Tryz.f106.results.toList = [.tmp 2] := by kernel_rfl
@[go_sem] theorem f106_nt : Tryz.f106.ntmps = 54 := by kernel_rfl
@[go_sem] theorem f110_en : entersB Tryz.prog 110 = true := by kernel_rfl
@[go_sem] theorem f110_rs : Tryz.f110.results.toList = [.tmp 2] := by kernel_rfl
@[go_sem] theorem f110_nt : Tryz.f110.ntmps = 7 := by kernel_rfl
@[go_sem] theorem f112_en : entersB Tryz.prog 112 = true := by kernel_rfl
@[go_sem] theorem f112_rs : Tryz.f112.results.toList = [.tmp 4] := by kernel_rfl
@[go_sem] theorem f112_nt : Tryz.f112.ntmps = 19 := by kernel_rfl
@[go_sem] theorem f123_en : entersB Tryz.prog 123 = true := by kernel_rfl
@[go_sem] theorem f128_rs : Tryz.f128.results.toList = [.tmp 3] := by kernel_rfl
@[go_sem] theorem f128_nt : Tryz.f128.ntmps = 8 := by kernel_rfl
@[go_sem] theorem f129_en : entersB Tryz.prog 129 = true := by kernel_rfl
@[go_sem] theorem f129_rs : Tryz.f129.results.toList = [.tmp 4, .tmp 5] := by kernel_rfl
@[go_sem] theorem f129_nt : Tryz.f129.ntmps = 30 := by kernel_rfl
@[go_sem] theorem f130_en : entersB Tryz.prog 130 = true := by kernel_rfl
@[go_sem] theorem f130_rs : Tryz.f130.results.toList = [.tmp 4] := by kernel_rfl
@[go_sem] theorem f130_nt : Tryz.f130.ntmps = 8 := by kernel_rfl
@[go_sem] theorem f135_en : entersB Tryz.prog 135 = true := by kernel_rfl
@[go_sem] theorem f135_rs : Tryz.f135.results.toList = [.tmp 4] := by kernel_rfl
@[go_sem] theorem f135_nt : Tryz.f135.ntmps = 16 := by kernel_rfl
@[go_sem] theorem f136_en : entersB Tryz.prog 136 = true := by kernel_rfl
@[go_sem] theorem f136_rs : Tryz.f136.results.toList = [.cell 2 34] := by kernel_rfl
@[go_sem] theorem f136_nt : Tryz.f136.ntmps = 13 := by kernel_rfl
@[go_sem] theorem f137_en : entersB Tryz.prog 137 = true := by kernel_rfl
@[go_sem] theorem f137_rs : Tryz.f137.results.toList = [.cell 4 194] := by kernel_rfl
@[go_sem] theorem f137_nt : Tryz.f137.ntmps = 127 := by kernel_rfl
@[go_sem] theorem f138_en : entersB Tryz.prog 138 = true := by kernel_rfl
@[go_sem] theorem f138_rs : Tryz.f138.results.toList = [.tmp 2] := by kernel_rfl
@[go_sem] theorem f138_nt : Tryz.f138.ntmps = 7 := by kernel_rfl
@[go_sem] theorem f139_en : entersB Tryz.prog 139 = true := by kernel_rfl
@[go_sem] theorem f139_rs : Tryz.f139.results.toList = [.tmp 2] := by kernel_rfl
@[go_sem] theorem f139_nt : Tryz.f139.ntmps = 18 := by kernel_rfl
@[go_sem] theorem f140_en : entersB Tryz.prog 140 = true := by kernel_rfl
@[go_sem] theorem f140_rs : Tryz.f140.results.toList = [.tmp 2] := by kernel_rfl
@[go_sem] theorem f140_nt : Tryz.f140.ntmps = 35 := by kernel_rfl
@[go_sem] theorem f141_en : entersB Tryz.prog 141 = true := by kernel_rfl
@[go_sem] theorem f141_rs : Tryz.f141.results.toList = [.tmp 6] := by kernel_rfl
@[go_sem] theorem f141_nt : Tryz.f141.ntmps = 15 := by kernel_rfl
@[go_sem] theorem f142_en : entersB Tryz.prog 142 = true := by kernel_rfl
@[go_sem] theorem f142_rs : Tryz.f142.results.toList = [.cell 5 98] := by kernel_rfl
@[go_sem] theorem f142_nt : Tryz.f142.ntmps = 16 := by kernel_rfl
@[go_sem] theorem f143_en : entersB Tryz.prog 143 = true := by kernel_rfl
@[go_sem] theorem f143_rs : Tryz.f143.results.toList = [.cell 6 98] := by kernel_rfl
@[go_sem] theorem f143_nt : Tryz.f143.ntmps = 20 := by kernel_rfl
@[go_sem] theorem f144_en : entersB Tryz.prog 144 = true := by kernel_rfl
@[go_sem] theorem f144_rs : Tryz.f144.results.toList = [.cell 4 98] := by kernel_rfl
@[go_sem] theorem f144_nt : Tryz.f144.ntmps = 10 := by kernel_rfl
@[go_sem] theorem f145_en : entersB Tryz.prog 145 = true := by kernel_rfl
@[go_sem] theorem f145_rs : Tryz.f145.results.toList = [.cell 6 98] := by kernel_rfl
@[go_sem] theorem f145_nt : Tryz.f145.ntmps = 88 := by kernel_rfl
@[go_sem] theorem f146_rs : Tryz.f146.results.toList = [.cell 5 98] := by kernel_rfl
@[go_sem] theorem f146_nt : Tryz.f146.ntmps = 36 := by kernel_rfl
@[go_sem] theorem f147_en : entersB Tryz.prog 147 = true := by kernel_rfl
@[go_sem] theorem f147_rs : Tryz.f147.results.toList = [.tmp 6, .tmp 7] := by kernel_rfl
@[go_sem] theorem f147_nt : Tryz.f147.ntmps = 49 := by kernel_rfl
@[go_sem] theorem f148_rs : Tryz.f148.results.toList = [.tmp 4] := by kernel_rfl
@[go_sem] theorem f148_nt : Tryz.f148.ntmps = 9 := by kernel_rfl
@[go_sem] theorem f149_rs : Tryz.f149.results.toList = [] := by kernel_rfl
@[go_sem] theorem f149_nt : Tryz.f149.ntmps = 9 := by kernel_rfl
@[go_sem] theorem f150_en : entersB Tryz.prog 150 = true := by kernel_rfl
@[go_sem] theorem f150_rs : Tryz.f150.results.toList = [] := by kernel_rfl
@[go_sem] theorem f150_nt : Tryz.f150.ntmps = 11 := by kernel_rfl
@[go_sem] theorem f151_en : entersB Tryz.prog 151 = true := by kernel_rfl
@[go_sem] theorem f151_rs : Tryz.f151.results.toList = [.tmp 2] := by kernel_rfl
@[go_sem] theorem f151_nt : Tryz.f151.ntmps = 61 := by kernel_rfl
@[go_sem] theorem f152_en : entersB Tryz.prog 152 = true := by kernel_rfl
@[go_sem] theorem f152_rs : Tryz.f152.results.toList = [.tmp 2] := by kernel_rfl
@[go_sem] theorem f152_nt : Tryz.f152.ntmps = 14 := by kernel_rfl
@[go_sem] theorem f153_en : entersB Tryz.prog 153 = true := by kernel_rfl
@[go_sem] theorem f153_rs : Tryz.f153.results.toList = [.tmp 6, .tmp 7] := by kernel_rfl
@[go_sem] theorem f153_nt : Tryz.f153.ntmps = 49 := by kernel_rfl
@[go_sem] theorem f154_rs : Tryz.f154.results.toList = [.tmp 4] := by kernel_rfl
@[go_sem] theorem f154_nt : Tryz.f154.ntmps = 9 := by kernel_rfl
@[go_sem] theorem f155_en : entersB Tryz.prog 155 = true := by kernel_rfl
@[go_sem] theorem f155_rs : Tryz.f155.results.toList = [.tmp 4] := by kernel_rfl
@[go_sem] theorem f155_nt : Tryz.f155.ntmps = 8 := by kernel_rfl
@[go_sem] theorem f156_en : entersB Tryz.prog 156 = true := by kernel_rfl
@[go_sem] theorem f156_rs : Tryz.f156.results.toList = [] := by kernel_rfl
@[go_sem] theorem f156_nt : Tryz.f156.ntmps = 134 := by kernel_rfl
@[go_sem] theorem f157_en : entersB Tryz.prog 157 = true := by kernel_rfl
@[go_sem] theorem f157_rs : Tryz.f157.results.toList = [.tmp 2] := by kernel_rfl
@[go_sem] theorem f157_nt : Tryz.f157.ntmps = 8 := by kernel_rfl
@[go_sem] theorem f158_en : entersB Tryz.prog 158 = true := by kernel_rfl
@[go_sem] theorem f158_rs : Tryz.f158.results.toList = [.tmp 4] := by kernel_rfl
@[go_sem] theorem f158_nt : Tryz.f158.ntmps = 18 := by kernel_rfl
@[go_sem] theorem f159_en : entersB Tryz.prog 159 = true := by kernel_rfl
@[go_sem] theorem f159_rs : Tryz.f159.results.toList = [.tmp 2] := by kernel_rfl
@[go_sem] theorem f159_nt : Tryz.f159.ntmps = 27 := by kernel_rfl
@[go_sem] theorem f160_en : entersB Tryz.prog 160 = true := by kernel_rfl
@[go_sem] theorem f160_rs : Tryz.f160.results.toList = [.tmp 2] := by kernel_rfl
@[go_sem] theorem f160_nt : Tryz.f160.ntmps = 94 := by kernel_rfl
@[go_sem] theorem f161_en : entersB Tryz.prog 161 = true := by kernel_rfl
@[go_sem] theorem f161_rs : Tryz.f161.results.toList = [.cell 2 118] := by kernel_rfl
@[go_sem] theorem f161_nt : Tryz.f161.ntmps = 36 := by kernel_rfl
@[go_sem] theorem f162_en : entersB Tryz.prog 162 = true := by kernel_rfl
@[go_sem] theorem f162_rs : Tryz.f162.results.toList = [.tmp 2] := by kernel_rfl
@[go_sem] theorem f162_nt : Tryz.f162.ntmps = 10 := by kernel_rfl
@[go_sem] theorem f163_en : entersB Tryz.prog 163 = true := by kernel_rfl
@[go_sem] theorem f163_rs : Tryz.f163.results.toList = [.cell 2 118] := by kernel_rfl
@[go_sem] theorem f163_nt : Tryz.f163.ntmps = 19 := by kernel_rfl
@[go_sem] theorem f164_en : entersB Tryz.prog 164 = true := by kernel_rfl
@[go_sem] theorem f164_rs : Tryz.f164.results.toList = [.cell 4 123] := by kernel_rfl
@[go_sem] theorem f164_nt : Tryz.f164.ntmps = 19 := by kernel_rfl
@[go_sem] theorem f165_en : entersB Tryz.prog 165 = true := by kernel_rfl
@[go_sem] theorem f165_rs : Tryz.f165.results.toList = [.tmp 2] := by kernel_rfl
@[go_sem] theorem f165_nt : Tryz.f165.ntmps = 4 := by kernel_rfl
@[go_sem] theorem f166_en : entersB Tryz.prog 166 = true := by kernel_rfl
@[go_sem] theorem f166_rs : Tryz.f166.results.toList = [.cell 0 123] := by kernel_rfl
@[go_sem] theorem f166_nt : Tryz.f166.ntmps = 2 := by kernel_rfl
@[go_sem] theorem f167_en : entersB Tryz.prog 167 = true := by kernel_rfl
@[go_sem] theorem f167_rs : Tryz.f167.results.toList = [.tmp 4, .tmp 5] := by kernel_rfl
@[go_sem] theorem f167_nt : Tryz.f167.ntmps = 88 := by kernel_rfl
@[go_sem] theorem f168_en : entersB Tryz.prog 168 = true := by kernel_rfl
@[go_sem] theorem f168_rs : Tryz.f168.results.toList = [.tmp 2] := by kernel_rfl
@[go_sem] theorem f168_nt : Tryz.f168.ntmps = 23 := by kernel_rfl
@[go_sem] theorem f169_en : entersB Tryz.prog 169 = true := by kernel_rfl
@[go_sem] theorem f169_rs : Tryz.f169.results.toList = [.tmp 2] := by kernel_rfl
@[go_sem] theorem f169_nt : Tryz.f169.ntmps = 26 := by kernel_rfl
@[go_sem] theorem f170_en : entersB Tryz.prog 170 = true := by kernel_rfl
@[go_sem] theorem f170_rs : Tryz.f170.results.toList = [.tmp 4] := by kernel_rfl
@[go_sem] theorem f170_nt : Tryz.f170.ntmps = 143 := by kernel_rfl
@[go_sem] theorem f194_en : entersB Tryz.prog 194 = true := by kernel_rfl
@[go_sem] theorem f194_rs : Tryz.f194.results.toList = [.tmp 2] := by kernel_rfl
@[go_sem] theorem f194_nt : Tryz.f194.ntmps = 12 := by kernel_rfl
@[go_sem] theorem f202_en : entersB Tryz.prog 202 = true := by kernel_rfl
@[go_sem] theorem f202_rs : Tryz.f202.results.toList = [.tmp 4, .tmp 5] := by kernel_rfl
@[go_sem] theorem f202_nt : Tryz.f202.ntmps = 51 := by kernel_rfl
@[go_sem] theorem f203_en : entersB Tryz.prog 203 = true := by kernel_rfl
@[go_sem] theorem f203_rs : Tryz.f203.results.toList = [.tmp 4] := by kernel_rfl
@[go_sem] theorem f203_nt : Tryz.f203.ntmps = 18 := by kernel_rfl
@[go_sem] theorem f206_en : entersB Tryz.prog 206 = true := by kernel_rfl
@[go_sem] theorem f206_rs : Tryz.f206.results.toList = [.tmp 2] := by kernel_rfl
@[go_sem] theorem f206_nt : Tryz.f206.ntmps = 9 := by kernel_rfl
@[go_sem] theorem f207_en : entersB Tryz.prog 207 = true := by kernel_rfl
@[go_sem] theorem f207_rs : Tryz.f207.results.toList = [.tmp 2] := by kernel_rfl
@[go_sem] theorem f207_nt : Tryz.f207.ntmps = 9 := by kernel_rfl
@[go_sem] theorem f208_en : entersB Tryz.prog 208 = true := by kernel_rfl
@[go_sem] theorem f208_rs : Tryz.f208.results.toList = [.tmp 4] := by kernel_rfl
@[go_sem] theorem f208_nt : Tryz.f208.ntmps = 8 := by kernel_rfl
@[go_sem] theorem f209_en : entersB Tryz.prog 209 = true := by kernel_rfl
@[go_sem] theorem f209_rs : Tryz.f209.results.toList = [.tmp 8] := by kernel_rfl
@[go_sem] theorem f209_nt : Tryz.f209.ntmps = 54 := by kernel_rfl
@[go_sem] theorem f210_rs : Tryz.f210.results.toList = [.tmp 2] := by kernel_rfl
@[go_sem] theorem f210_nt : Tryz.f210.ntmps = 7 := by kernel_rfl
@[go_sem] theorem f211_en : entersB Tryz.prog 211 = true := by kernel_rfl
@[go_sem] theorem f211_rs : Tryz.f211.results.toList = [.tmp 2] := by kernel_rfl
@[go_sem] theorem f211_nt : Tryz.f211.ntmps = 25 := by kernel_rfl
@[go_sem] theorem f212_en : entersB Tryz.prog 212 = true := by kernel_rfl
@[go_sem] theorem f212_rs : Tryz.f212.results.toList = [.tmp 4] := by kernel_rfl
@[go_sem] theorem f212_nt : Tryz.f212.ntmps = 22 := by kernel_rfl
@[go_sem] theorem f213_en : entersB Tryz.prog 213 = true := by kernel_rfl
@[go_sem] theorem f213_rs : Tryz.f213.results.toList = [] := by kernel_rfl
@[go_sem] theorem f213_nt : Tryz.f213.ntmps = 134 := by kernel_rfl
@[go_sem] theorem f214_en : entersB Tryz.prog 214 = true := by kernel_rfl
@[go_sem] theorem f214_rs : Tryz.f214.results.toList = [.tmp 4] := by kernel_rfl
@[go_sem] theorem f214_nt : Tryz.f214.ntmps = 8 := by kernel_rfl
@[go_sem] theorem f215_en : entersB Tryz.prog 215 = true := by kernel_rfl
@[go_sem] theorem f215_rs : Tryz.f215.results.toList = [] := by kernel_rfl
@[go_sem] theorem f215_nt : Tryz.f215.ntmps = 49 := by kernel_rfl
@[go_sem] theorem f225_en : entersB Tryz.prog 225 = true := by kernel_rfl
@[go_sem] theorem f225_rs : Tryz.f225.results.toList = [.tmp 2] := by kernel_rfl
@[go_sem] theorem f225_nt : Tryz.f225.ntmps = 25 := by kernel_rfl
@[go_sem] theorem f226_en : entersB Tryz.prog 226 = true := by kernel_rfl
@[go_sem] theorem f226_rs : Tryz.f226.results.toList = [.cell 6 118] := by kernel_rfl
@[go_sem] theorem f226_nt : Tryz.f226.ntmps = 35 := by kernel_rfl
@[go_sem] theorem f227_rs : Tryz.f227.results.toList = [.cell 1 118] := by kernel_rfl
@[go_sem] theorem f227_nt : Tryz.f227.ntmps = 6 := by kernel_rfl
@[go_sem] theorem f228_en : entersB Tryz.prog 228 = true := by kernel_rfl
@[go_sem] theorem f228_rs : Tryz.f228.results.toList = [.cell 2 118] := by kernel_rfl
@[go_sem] theorem f228_nt : Tryz.f228.ntmps = 89 := by kernel_rfl
@[go_sem] theorem f229_en : entersB Tryz.prog 229 = true := by kernel_rfl
@[go_sem] theorem f229_rs : Tryz.f229.results.toList = [.cell 2 292] := by kernel_rfl
@[go_sem] theorem f229_nt : Tryz.f229.ntmps = 47 := by kernel_rfl
@[go_sem] theorem f230_rs : Tryz.f230.results.toList = [.cell 1 118] := by kernel_rfl
@[go_sem] theorem f230_nt : Tryz.f230.ntmps = 6 := by kernel_rfl
@[go_sem] theorem f231_en : entersB Tryz.prog 231 = true := by kernel_rfl
@[go_sem] theorem f231_rs : Tryz.f231.results.toList = [.tmp 4] := by kernel_rfl
@[go_sem] theorem f231_nt : Tryz.f231.ntmps = 8 := by kernel_rfl
@[go_sem] theorem f252_en : entersB Tryz.prog 252 = true := by kernel_rfl
@[go_sem] theorem f252_rs : Tryz.f252.results.toList = [] := by kernel_rfl
@[go_sem] theorem f252_nt : Tryz.f252.ntmps = 42 := by kernel_rfl
@[go_sem] theorem f253_rs : Tryz.f253.results.toList = [.tmp 2] := by kernel_rfl
@[go_sem] theorem f253_nt : Tryz.f253.ntmps = 7 := by kernel_rfl
@[go_sem] theorem f254_en : entersB Tryz.prog 254 = true := by kernel_rfl
@[go_sem] theorem f254_rs : Tryz.f254.results.toList = [] := by kernel_rfl
@[go_sem] theorem f254_nt : Tryz.f254.ntmps = 49 := by kernel_rfl
@[go_sem] theorem f270_en : entersB Tryz.prog 270 = true := by kernel_rfl
@[go_sem] theorem f270_rs : Tryz.f270.results.toList = [.tmp 4, .tmp 5] := by kernel_rfl
@[go_sem] theorem f270_nt : Tryz.f270.ntmps = 21 := by kernel_rfl
@[go_sem] theorem f271_en : entersB Tryz.prog 271 = true := by kernel_rfl
@[go_sem] theorem f271_rs : Tryz.f271.results.toList = [] := by kernel_rfl
@[go_sem] theorem f271_nt : Tryz.f271.ntmps = 18 := by kernel_rfl
@[go_sem] theorem f272_en : entersB Tryz.prog 272 = true := by kernel_rfl
@[go_sem] theorem f272_rs : Tryz.f272.results.toList = [.cell 2 118] := by kernel_rfl
@[go_sem] theorem f272_nt : Tryz.f272.ntmps = 107 := by kernel_rfl
@[go_sem] theorem f301_en : entersB Tryz.prog 301 = true := by kernel_rfl
@[go_sem] theorem f301_rs : Tryz.f301.results.toList = [.tmp 2] := by kernel_rfl
@[go_sem] theorem f301_nt : Tryz.f301.ntmps = 87 := by kernel_rfl
@[go_sem] theorem f307_en : entersB Tryz.prog 307 = true := by kernel_rfl
@[go_sem] theorem f307_rs : Tryz.f307.results.toList = [.tmp 4, .tmp 5] := by kernel_rfl
@[go_sem] theorem f307_nt : Tryz.f307.ntmps = 38 := by kernel_rfl
@[go_sem] theorem f308_en : entersB Tryz.prog 308 = true := by kernel_rfl
@[go_sem] theorem f308_rs : Tryz.f308.results.toList = [.tmp 4] := by kernel_rfl
@[go_sem] theorem f308_nt : Tryz.f308.ntmps = 20 := by kernel_rfl
@[go_sem] theorem f322_en : entersB Tryz.prog 322 = true := by kernel_rfl
@[go_sem] theorem f322_rs : Tryz.f322.results.toList = [.tmp 4] := by kernel_rfl
@[go_sem] theorem f322_nt : Tryz.f322.ntmps = 20 := by kernel_rfl
@[go_sem] theorem f323_en : entersB Tryz.prog 323 = true := by kernel_rfl
@[go_sem] theorem f323_rs : Tryz.f323.results.toList = [.tmp 2] := by kernel_rfl
@[go_sem] theorem f323_nt : Tryz.f323.ntmps = 26 := by kernel_rfl
@[go_sem] theorem f324_en : entersB Tryz.prog 324 = true := by kernel_rfl
@[go_sem] theorem f325_en : entersB Tryz.prog 325 = true := by kernel_rfl
@[go_sem] theorem f325_rs : Tryz.f325.results.toList = [.tmp 4] := by kernel_rfl
@[go_sem] theorem f325_nt : Tryz.f325.ntmps = 62 := by kernel_rfl
@[go_sem] theorem f326_en : entersB Tryz.prog 326 = true := by kernel_rfl
@[go_sem] theorem f326_rs : Tryz.f326.results.toList = [.tmp 4] := by kernel_rfl
@[go_sem] theorem f326_nt : Tryz.f326.ntmps = 44 := by kernel_rfl
@[go_sem] theorem f328_en : entersB Tryz.prog 328 = true := by kernel_rfl
@[go_sem] theorem f328_rs : Tryz.f328.results.toList = [.tmp 4] := by kernel_rfl
@[go_sem] theorem f328_nt : Tryz.f328.ntmps = 8 := by kernel_rfl
@[go_sem] theorem f343_en : entersB Tryz.prog 343 = true := by kernel_rfl
@[go_sem] theorem f343_rs : Tryz.f343.results.toList = [] := by kernel_rfl
@[go_sem] theorem f343_nt : Tryz.f343.ntmps = 19 := by kernel_rfl
@[go_sem] theorem f344_en : entersB Tryz.prog 344 = true := by kernel_rfl
@[go_sem] theorem f344_rs : Tryz.f344.results.toList = [.tmp 4] := by kernel_rfl
@[go_sem] theorem f344_nt : Tryz.f344.ntmps = 13 := by kernel_rfl
@[go_sem] theorem f263_en : entersB Tryz.prog 263 = false := by kernel_rfl
@[go_sem] theorem f273_en : entersB Tryz.prog 273 = false := by kernel_rfl
end Go.Proofs.YtlnfiflbpmicgaaGreatDoor
