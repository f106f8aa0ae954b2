/- Facts on the types. No condition. -/
import Derived.Test.YtflklkijfkmeiaaGreatDoorProg
import Derived.KernelRfl
import Derived.Test.YtflklkijfkmeiaaGreatDoorHCoreC
namespace Go.Proofs.YtflklkijfkmeiaaGreatDoor
open Go Go.RowKit
@[go_sem] theorem t3_ag : aggT Tryz.prog 3 = false := by kernel_rfl
@[go_sem] theorem t3_sz : szT Tryz.prog 3 = 1 := by kernel_rfl
@[go_sem] theorem t3_in : (Tryz.prog.info? 3).isSome = true := by kernel_rfl
@[go_sem] theorem t3_un : (Tryz.prog.underlying 3).isSome = true := by kernel_rfl
@[go_sem] theorem t3_ze : zeroT Tryz.prog 3 = some [.int .i64 0] := by kernel_rfl
@[go_sem] theorem t4_ag : aggT Tryz.prog 4 = false := by kernel_rfl
@[go_sem] theorem t4_sz : szT Tryz.prog 4 = 1 := by kernel_rfl
@[go_sem] theorem t4_in : (Tryz.prog.info? 4).isSome = true := by kernel_rfl
@[go_sem] theorem t4_un : (Tryz.prog.underlying 4).isSome = true := by kernel_rfl
@[go_sem] theorem t5_ag : aggT Tryz.prog 5 = false := by kernel_rfl
@[go_sem] theorem t5_sz : szT Tryz.prog 5 = 1 := by kernel_rfl
@[go_sem] theorem t5_in : (Tryz.prog.info? 5).isSome = true := by kernel_rfl
@[go_sem] theorem t5_un : (Tryz.prog.underlying 5).isSome = true := by kernel_rfl
@[go_sem] theorem t9_ag : aggT Tryz.prog 9 = false := by kernel_rfl
@[go_sem] theorem t9_sz : szT Tryz.prog 9 = 1 := by kernel_rfl
@[go_sem] theorem t9_in : (Tryz.prog.info? 9).isSome = true := by kernel_rfl
@[go_sem] theorem t9_ze : zeroT Tryz.prog 9 = some [.str ⟨#[]⟩] := by kernel_rfl
@[go_sem] theorem t22_ag : aggT Tryz.prog 22 = false := by kernel_rfl
@[go_sem] theorem t22_sz : szT Tryz.prog 22 = 1 := by kernel_rfl
@[go_sem] theorem t22_in : (Tryz.prog.info? 22).isSome = true := by kernel_rfl
@[go_sem] theorem t22_un : (Tryz.prog.underlying 22).isSome = true := by kernel_rfl
@[go_sem] theorem t23_ag : aggT Tryz.prog 23 = false := by kernel_rfl
@[go_sem] theorem t23_sz : szT Tryz.prog 23 = 1 := by kernel_rfl
@[go_sem] theorem t23_in : (Tryz.prog.info? 23).isSome = true := by kernel_rfl
@[go_sem] theorem t23_un : (Tryz.prog.underlying 23).isSome = true := by kernel_rfl
@[go_sem] theorem t25_ze : zeroT Tryz.prog 25 = some [.sl none 0, .int .i64 0] := by kernel_rfl
@[go_sem] theorem t25_fo : fieldsOk Tryz.prog 25 = true := by kernel_rfl
@[go_sem] theorem t27_ag : aggT Tryz.prog 27 = false := by kernel_rfl
@[go_sem] theorem t27_sz : szT Tryz.prog 27 = 1 := by kernel_rfl
@[go_sem] theorem t27_in : (Tryz.prog.info? 27).isSome = true := by kernel_rfl
@[go_sem] theorem t27_un : (Tryz.prog.underlying 27).isSome = true := by kernel_rfl
@[go_sem] theorem t34_ag : aggT Tryz.prog 34 = true := by kernel_rfl
@[go_sem] theorem t34_sz : szT Tryz.prog 34 = 3 := by kernel_rfl
@[go_sem] theorem t34_in : (Tryz.prog.info? 34).isSome = true := by kernel_rfl
@[go_sem] theorem t34_un : (Tryz.prog.underlying 34).isSome = true := by kernel_rfl
@[go_sem] theorem t34_ze : zeroT Tryz.prog 34 = some [.int .i64 0, .int .i64 0, .int .i64 0] := by kernel_rfl
@[go_sem] theorem t34_fo : fieldsOk Tryz.prog 34 = true := by kernel_rfl
@[go_sem] theorem t35_ag : aggT Tryz.prog 35 = false := by kernel_rfl
@[go_sem] theorem t35_sz : szT Tryz.prog 35 = 1 := by kernel_rfl
@[go_sem] theorem t35_in : (Tryz.prog.info? 35).isSome = true := by kernel_rfl
@[go_sem] theorem t35_un : (Tryz.prog.underlying 35).isSome = true := by kernel_rfl
@[go_sem] theorem t35_ze : zeroT Tryz.prog 35 = some [.int .i64 0] := by kernel_rfl
@[go_sem] theorem t70_ag : aggT Tryz.prog 70 = false := by kernel_rfl
@[go_sem] theorem t70_sz : szT Tryz.prog 70 = 1 := by kernel_rfl
@[go_sem] theorem t70_in : (Tryz.prog.info? 70).isSome = true := by kernel_rfl
@[go_sem] theorem t70_un : (Tryz.prog.underlying 70).isSome = true := by kernel_rfl
@[go_sem] theorem t70_ze : zeroT Tryz.prog 70 = some [.sl none 0] := by kernel_rfl
@[go_sem] theorem t83_ag : aggT Tryz.prog 83 = false := by kernel_rfl
@[go_sem] theorem t83_sz : szT Tryz.prog 83 = 1 := by kernel_rfl
@[go_sem] theorem t83_in : (Tryz.prog.info? 83).isSome = true := by kernel_rfl
@[go_sem] theorem t83_un : (Tryz.prog.underlying 83).isSome = true := by kernel_rfl
@[go_sem] theorem t86_ag : aggT Tryz.prog 86 = true := by kernel_rfl
@[go_sem] theorem t86_sz : szT Tryz.prog 86 = 2 := by kernel_rfl
@[go_sem] theorem t86_in : (Tryz.prog.info? 86).isSome = true := by kernel_rfl
@[go_sem] theorem t86_un : (Tryz.prog.underlying 86).isSome = true := by kernel_rfl
@[go_sem] theorem t86_ze : zeroT Tryz.prog 86 = some [.str ⟨#[]⟩, .sl none 0] := by kernel_rfl
@[go_sem] theorem t86_fo : fieldsOk Tryz.prog 86 = true := by kernel_rfl
@[go_sem] theorem t88_ag : aggT Tryz.prog 88 = false := by kernel_rfl
@[go_sem] theorem t88_sz : szT Tryz.prog 88 = 1 := by kernel_rfl
@[go_sem] theorem t88_in : (Tryz.prog.info? 88).isSome = true := by kernel_rfl
@[go_sem] theorem t88_un : (Tryz.prog.underlying 88).isSome = true := by kernel_rfl
@[go_sem] theorem t88_ze : zeroT Tryz.prog 88 = some [.ptr none] := by kernel_rfl
@[go_sem] theorem t92_ag : aggT Tryz.prog 92 = true := by kernel_rfl
@[go_sem] theorem t92_sz : szT Tryz.prog 92 = 2 := by kernel_rfl
@[go_sem] theorem t92_in : (Tryz.prog.info? 92).isSome = true := by kernel_rfl
@[go_sem] theorem t92_un : (Tryz.prog.underlying 92).isSome = true := by kernel_rfl
@[go_sem] theorem t92_ze : zeroT Tryz.prog 92 = some [.int .i64 0, .int .i64 0] := by kernel_rfl
@[go_sem] theorem t92_fo : fieldsOk Tryz.prog 92 = true := by kernel_rfl
@[go_sem] theorem t94_ag : aggT Tryz.prog 94 = false := by kernel_rfl
@[go_sem] theorem t94_sz : szT Tryz.prog 94 = 1 := by kernel_rfl
@[go_sem] theorem t94_in : (Tryz.prog.info? 94).isSome = true := by kernel_rfl
@[go_sem] theorem t94_un : (Tryz.prog.underlying 94).isSome = true := by kernel_rfl
@[go_sem] theorem t111_ag : aggT Tryz.prog 111 = false := by kernel_rfl
@[go_sem] theorem t111_sz : szT Tryz.prog 111 = 1 := by kernel_rfl
@[go_sem] theorem t111_in : (Tryz.prog.info? 111).isSome = true := by kernel_rfl
@[go_sem] theorem t111_un : (Tryz.prog.underlying 111).isSome = true := by kernel_rfl
@[go_sem] theorem t113_ag : aggT Tryz.prog 113 = true := by kernel_rfl
@[go_sem] theorem t113_sz : szT Tryz.prog 113 = 5 := by kernel_rfl
@[go_sem] theorem t113_in : (Tryz.prog.info? 113).isSome = true := by kernel_rfl
@[go_sem] theorem t113_un : (Tryz.prog.underlying 113).isSome = true := by kernel_rfl
@[go_sem] theorem t113_ze : zeroT Tryz.prog 113 = some [.int .u8 0, .str ⟨#[]⟩, .int .i64 0, .sl none 0, .int .i64 0] := by kernel_rfl
@[go_sem] theorem t113_fo : fieldsOk Tryz.prog 113 = true := by kernel_rfl
@[go_sem] theorem t130_ag : aggT Tryz.prog 130 = false := by kernel_rfl
@[go_sem] theorem t130_sz : szT Tryz.prog 130 = 1 := by kernel_rfl
@[go_sem] theorem t130_in : (Tryz.prog.info? 130).isSome = true := by kernel_rfl
@[go_sem] theorem t130_un : (Tryz.prog.underlying 130).isSome = true := by kernel_rfl
@[go_sem] theorem t132_ze : zeroT Tryz.prog 132 = some [.ptr none, .sl none 0] := by kernel_rfl
@[go_sem] theorem t166_ag : aggT Tryz.prog 166 = true := by kernel_rfl
@[go_sem] theorem t166_sz : szT Tryz.prog 166 = 3 := by kernel_rfl
@[go_sem] theorem t166_in : (Tryz.prog.info? 166).isSome = true := by kernel_rfl
@[go_sem] theorem t166_un : (Tryz.prog.underlying 166).isSome = true := by kernel_rfl
@[go_sem] theorem t166_ze : zeroT Tryz.prog 166 = some [.int .i64 0, .int .i64 0, .str ⟨#[]⟩] := by kernel_rfl
@[go_sem] theorem t166_fo : fieldsOk Tryz.prog 166 = true := by kernel_rfl
@[go_sem] theorem t168_ze : zeroT Tryz.prog 168 = some [.str ⟨#[]⟩, .int .i64 0, .int .i64 0, .str ⟨#[]⟩, .int .i64 0, .int .i64 0, .int .i64 0] := by kernel_rfl
@[go_sem] theorem t168_fo : fieldsOk Tryz.prog 168 = true := by kernel_rfl
@[go_sem] theorem t171_ag : aggT Tryz.prog 171 = false := by kernel_rfl
@[go_sem] theorem t171_sz : szT Tryz.prog 171 = 1 := by kernel_rfl
@[go_sem] theorem t171_in : (Tryz.prog.info? 171).isSome = true := by kernel_rfl
@[go_sem] theorem t171_un : (Tryz.prog.underlying 171).isSome = true := by kernel_rfl
@[go_sem] theorem t173_ze : zeroT Tryz.prog 173 = some [.str ⟨#[]⟩, .int .i64 0, .str ⟨#[]⟩, .sl none 0, .bool false] := by kernel_rfl
@[go_sem] theorem t173_fo : fieldsOk Tryz.prog 173 = true := by kernel_rfl
@[go_sem] theorem t187_ag : aggT Tryz.prog 187 = false := by kernel_rfl
@[go_sem] theorem t187_sz : szT Tryz.prog 187 = 1 := by kernel_rfl
@[go_sem] theorem t187_in : (Tryz.prog.info? 187).isSome = true := by kernel_rfl
@[go_sem] theorem t187_un : (Tryz.prog.underlying 187).isSome = true := by kernel_rfl
@[go_sem] theorem t188_ag : aggT Tryz.prog 188 = false := by kernel_rfl
@[go_sem] theorem t188_sz : szT Tryz.prog 188 = 1 := by kernel_rfl
@[go_sem] theorem t188_in : (Tryz.prog.info? 188).isSome = true := by kernel_rfl
@[go_sem] theorem t188_un : (Tryz.prog.underlying 188).isSome = true := by kernel_rfl
@[go_sem] theorem t191_ze : zeroT Tryz.prog 191 = some [.sl none 0, .int .i64 0, .int .i64 0, .int .i64 0] := by kernel_rfl
@[go_sem] theorem t191_fo : fieldsOk Tryz.prog 191 = true := by kernel_rfl
@[go_sem] theorem t230_un : (Tryz.prog.underlying 230).isSome = true := by kernel_rfl
@[go_sem] theorem t248_ag : aggT Tryz.prog 248 = true := by kernel_rfl
@[go_sem] theorem t248_sz : szT Tryz.prog 248 = 3 := by kernel_rfl
@[go_sem] theorem t248_in : (Tryz.prog.info? 248).isSome = true := by kernel_rfl
@[go_sem] theorem t248_un : (Tryz.prog.underlying 248).isSome = true := by kernel_rfl
@[go_sem] theorem t248_ze : zeroT Tryz.prog 248 = some [.int .u8 0, .str ⟨#[]⟩, .int .i64 0] := by kernel_rfl
@[go_sem] theorem t248_fo : fieldsOk Tryz.prog 248 = true := by kernel_rfl
@[go_sem] theorem t25_f0 : fieldT Tryz.prog 25 0 = some (0, 1) := by kernel_rfl
@[go_sem] theorem t25_f1 : fieldT Tryz.prog 25 1 = some (1, 1) := by kernel_rfl
@[go_sem] theorem t34_f0 : fieldT Tryz.prog 34 0 = some (0, 1) := by kernel_rfl
@[go_sem] theorem t34_f1 : fieldT Tryz.prog 34 1 = some (1, 1) := by kernel_rfl
@[go_sem] theorem t34_f2 : fieldT Tryz.prog 34 2 = some (2, 1) := by kernel_rfl
@[go_sem] theorem t86_f0 : fieldT Tryz.prog 86 0 = some (0, 1) := by kernel_rfl
@[go_sem] theorem t86_f1 : fieldT Tryz.prog 86 1 = some (1, 1) := by kernel_rfl
@[go_sem] theorem t92_f0 : fieldT Tryz.prog 92 0 = some (0, 1) := by kernel_rfl
@[go_sem] theorem t92_f1 : fieldT Tryz.prog 92 1 = some (1, 1) := by kernel_rfl
@[go_sem] theorem t113_f0 : fieldT Tryz.prog 113 0 = some (0, 1) := by kernel_rfl
@[go_sem] theorem t113_f1 : fieldT Tryz.prog 113 1 = some (1, 1) := by kernel_rfl
@[go_sem] theorem t113_f2 : fieldT Tryz.prog 113 2 = some (2, 1) := by kernel_rfl
@[go_sem] theorem t113_f3 : fieldT Tryz.prog 113 3 = some (3, 1) := by kernel_rfl
@[go_sem] theorem t113_f4 : fieldT Tryz.prog 113 4 = some (4, 1) := by kernel_rfl
@[go_sem] theorem t132_f1 : fieldT Tryz.prog 132 1 = some (1, 1) := by kernel_rfl
@[go_sem] theorem t166_f0 : fieldT Tryz.prog 166 0 = some (0, 1) := by kernel_rfl
@[go_sem] theorem t166_f1 : fieldT Tryz.prog 166 1 = some (1, 1) := by kernel_rfl
@[go_sem] theorem t166_f2 : fieldT Tryz.prog 166 2 = some (2, 1) := by kernel_rfl
@[go_sem] theorem t168_f0 : fieldT Tryz.prog 168 0 = some (0, 1) := by kernel_rfl
@[go_sem] theorem t168_f1 : fieldT Tryz.prog 168 1 = some (1, 3) := by kernel_rfl
@[go_sem] theorem t168_f2 : fieldT Tryz.prog 168 2 = some (4, 1) := by kernel_rfl
@[go_sem] theorem t168_f3 : fieldT Tryz.prog 168 3 = some (5, 1) := by kernel_rfl
@[go_sem] theorem t168_f4 : fieldT Tryz.prog 168 4 = some (6, 1) := by kernel_rfl
@[go_sem] theorem t173_f0 : fieldT Tryz.prog 173 0 = some (0, 1) := by kernel_rfl
@[go_sem] theorem t173_f1 : fieldT Tryz.prog 173 1 = some (1, 1) := by kernel_rfl
@[go_sem] theorem t173_f2 : fieldT Tryz.prog 173 2 = some (2, 1) := by kernel_rfl
@[go_sem] theorem t173_f3 : fieldT Tryz.prog 173 3 = some (3, 1) := by kernel_rfl
@[go_sem] theorem t173_f4 : fieldT Tryz.prog 173 4 = some (4, 1) := by kernel_rfl
@[go_sem] theorem t191_f0 : fieldT Tryz.prog 191 0 = some (0, 1) := by kernel_rfl
@[go_sem] theorem t191_f1 : fieldT Tryz.prog 191 1 = some (1, 1) := by kernel_rfl
@[go_sem] theorem t191_f2 : fieldT Tryz.prog 191 2 = some (2, 1) := by kernel_rfl
@[go_sem] theorem t191_f3 : fieldT Tryz.prog 191 3 = some (3, 1) := by kernel_rfl
@[go_sem] theorem t248_f0 : fieldT Tryz.prog 248 0 = some (0, 1) := by kernel_rfl
@[go_sem] theorem t248_f1 : fieldT Tryz.prog 248 1 = some (1, 1) := by kernel_rfl
@[go_sem] theorem t248_f2 : fieldT Tryz.prog 248 2 = some (2, 1) := by kernel_rfl
@[go_sem] theorem t9_st : strT Tryz.prog 9 = true := by kernel_rfl
@[go_sem] theorem t9_el : elemT Tryz.prog 9 = none := by kernel_rfl
@[go_sem] theorem t9_us : Tryz.prog.underlying 9 = some .string := by kernel_rfl
@[go_sem] theorem t22_el : elemT Tryz.prog 22 = some 3 := by kernel_rfl
@[go_sem] theorem t27_el : elemT Tryz.prog 27 = some 86 := by kernel_rfl
@[go_sem] theorem t70_el : elemT Tryz.prog 70 = some 9 := by kernel_rfl
@[go_sem] theorem t70_st : strT Tryz.prog 70 = false := by kernel_rfl
@[go_sem] theorem t83_el : elemT Tryz.prog 83 = some 34 := by kernel_rfl
@[go_sem] theorem t107_el : elemT Tryz.prog 107 = some 35 := by kernel_rfl
@[go_sem] theorem t111_el : elemT Tryz.prog 111 = some 113 := by kernel_rfl
@[go_sem] theorem t130_el : elemT Tryz.prog 130 = some 5 := by kernel_rfl
@[go_sem] theorem t171_el : elemT Tryz.prog 171 = some 88 := by kernel_rfl
@[go_sem] theorem t188_el : elemT Tryz.prog 188 = some 248 := by kernel_rfl
@[go_sem] theorem t188_st : strT Tryz.prog 188 = false := by kernel_rfl
@[go_sem] theorem t3_ik : intK Tryz.prog 3 = some .i64 := by kernel_rfl
@[go_sem] theorem t5_ik : intK Tryz.prog 5 = some .u8 := by kernel_rfl
@[go_sem] theorem t160_un : (Tryz.prog.underlying 160).isSome = true := by kernel_rfl
@[go_sem] theorem t160_ik : intK Tryz.prog 160 = some .u64 := by kernel_rfl
@[go_sem] theorem t3_bt : bytesT Tryz.prog 3 = false := by kernel_rfl
@[go_sem] theorem t5_bt : bytesT Tryz.prog 5 = false := by kernel_rfl
@[go_sem] theorem t160_bt : bytesT Tryz.prog 160 = false := by kernel_rfl
@[go_sem] theorem t230_bt : bytesT Tryz.prog 230 = false := by kernel_rfl
@[go_sem] theorem t92_k1 : fieldK Tryz.prog 92 1 = some (1, 1, false) := by kernel_rfl
@[go_sem] theorem t248_k0 : fieldK Tryz.prog 248 0 = some (0, 1, false) := by kernel_rfl
@[go_sem] theorem t34_fk : fieldsK Tryz.prog 34 = some [(0, 1), (1, 1), (2, 1)] := by kernel_rfl
@[go_sem] theorem t134_kd : kindT Tryz.prog 134 = 6 := by kernel_rfl
@[go_sem] theorem f6_rs : Tryz.f6.results.toList = [.tmp 2] := by kernel_rfl
@[go_sem] theorem f6_nt : Tryz.f6.ntmps = 135 := by kernel_rfl
@[go_sem] theorem f8_en : entersB Tryz.prog 8 = true := by kernel_rfl
@[go_sem] theorem f8_rs : Tryz.f8.results.toList = [.tmp 2] := by kernel_rfl
@[go_sem] theorem f8_nt : Tryz.f8.ntmps = 54 := by kernel_rfl
@[go_sem] theorem f11_en : entersB Tryz.prog 11 = true := by kernel_rfl
@[go_sem] theorem f11_rs : Tryz.f11.results.toList = [.cell 6 34, .tmp 7] := by kernel_rfl
@[go_sem] theorem f11_nt : Tryz.f11.ntmps = 39 := by kernel_rfl
@[go_sem] theorem f25_en : entersB Tryz.prog 25 = true := by kernel_rfl
@[go_sem] theorem f25_rs : Tryz.f25.results.toList = [.tmp 6] := by kernel_rfl
@[go_sem] theorem f25_nt : Tryz.f25.ntmps = 19 := by kernel_rfl
@[go_sem] theorem f34_en : entersB Tryz.prog 34 = true := by kernel_rfl
@[go_sem] theorem f34_rs : Tryz.f34.results.toList = [.tmp 4] := by kernel_rfl
@[go_sem] theorem f34_nt : Tryz.f34.ntmps = 102 := by kernel_rfl
@[go_sem] theorem f35_en : entersB Tryz.prog 35 = true := by kernel_rfl
@[go_sem] theorem f35_rs : Tryz.f35.results.toList = [.tmp 4] := by kernel_rfl
@[go_sem] theorem f35_nt : Tryz.f35.ntmps = 9 := by kernel_rfl
@[go_sem] theorem f36_en : entersB Tryz.prog 36 = true := by kernel_rfl
@[go_sem] theorem f37_en : entersB Tryz.prog 37 = true := by kernel_rfl
@[go_sem] theorem f37_rs : Tryz.f37.results.toList = [.tmp 2, .tmp 3, .tmp 4] := by kernel_rfl
@[go_sem] theorem f37_nt : Tryz.f37.ntmps = 20 := by kernel_rfl
@[go_sem] theorem f38_en : entersB Tryz.prog 38 = true := by kernel_rfl
@[go_sem] theorem f38_rs : Tryz.f38.results.toList = [.tmp 2, .tmp 3, .tmp 4] := by kernel_rfl
@[go_sem] theorem f38_nt : Tryz.f38.ntmps = 25 := by kernel_rfl
@[go_sem] theorem f39_en : entersB Tryz.prog 39 = true := by kernel_rfl
@[go_sem] theorem f39_rs : Tryz.f39.results.toList = [.tmp 2] := by kernel_rfl
@[go_sem] theorem f39_nt : Tryz.f39.ntmps = 11 := by kernel_rfl
@[go_sem] theorem f40_en : entersB Tryz.prog 40 = true := by kernel_rfl
@[go_sem] theorem f40_rs : Tryz.f40.results.toList = [.tmp 2, .tmp 3, .tmp 4] := by kernel_rfl
@[go_sem] theorem f40_nt : Tryz.f40.ntmps = 20 := by kernel_rfl
@[go_sem] theorem f41_en : entersB Tryz.prog 41 = true := by kernel_rfl
@[go_sem] theorem f41_rs : Tryz.f41.results.toList = [.tmp 2] := by kernel_rfl
@[go_sem] theorem f41_nt : Tryz.f41.ntmps = 15 := by kernel_rfl
@[go_sem] theorem f42_en : entersB Tryz.prog 42 = true := by kernel_rfl
@[go_sem] theorem f42_rs : Tryz.f42.results.toList = [.tmp 4] := by kernel_rfl
@[go_sem] theorem f42_nt : Tryz.f42.ntmps = 26 := by kernel_rfl
@[go_sem] theorem f43_en : entersB Tryz.prog 43 = true := by kernel_rfl
@[go_sem] theorem f43_rs : Tryz.f43.results.toList = [.tmp 4] := by kernel_rfl
@[go_sem] theorem f43_nt : Tryz.f43.ntmps = 9 := by kernel_rfl
@[go_sem] theorem f45_en : entersB Tryz.prog 45 = true := by kernel_rfl
@[go_sem] theorem f45_rs : Tryz.f45.results.toList = [.tmp 4] := by kernel_rfl
@[go_sem] theorem f45_nt : Tryz.f45.ntmps = 12 := by kernel_rfl
@[go_sem] theorem f47_en : entersB Tryz.prog 47 = true := by kernel_rfl
@[go_sem] theorem f47_rs : Tryz.f47.results.toList = [.tmp 4] := by kernel_rfl
@[go_sem] theorem f47_nt : Tryz.f47.ntmps = 12 := by kernel_rfl
@[go_sem] theorem f48_en : entersB Tryz.prog 48 = true := by kernel_rfl
@[go_sem] theorem f48_rs : Tryz.f48.results.toList = [.tmp 4] := by kernel_rfl
@[go_sem] theorem f48_nt : Tryz.f48.ntmps = 39 := by kernel_rfl
@[go_sem] theorem f49_en : entersB Tryz.prog 49 = true := by kernel_rfl
@[go_sem] theorem f49_rs : Tryz.f49.results.toList = [.tmp 4] := by kernel_rfl
@[go_sem] theorem f49_nt : Tryz.f49.ntmps = 64 := by kernel_rfl
@[go_sem] theorem f50_en : entersB Tryz.prog 50 = true := by kernel_rfl
@[go_sem] theorem f50_rs : Tryz.f50.results.toList = [.tmp 4] := by kernel_rfl
@[go_sem] theorem f50_nt : Tryz.f50.ntmps = 25 := by kernel_rfl
@[go_sem] theorem f51_en : entersB Tryz.prog 51 = true := by kernel_rfl
@[go_sem] theorem f51_rs : Tryz.f51.results.toList = [.tmp 2, .tmp 3, .tmp 4] := by kernel_rfl
@[go_sem] theorem f51_nt : Tryz.f51.ntmps = 56 := by kernel_rfl
@[go_sem] theorem f52_en : entersB Tryz.prog 52 = true := by kernel_rfl
@[go_sem] theorem f52_rs : Tryz.f52.results.toList = [.tmp 2] := by kernel_rfl
@[go_sem] theorem f52_nt : Tryz.f52.ntmps = 42 := by kernel_rfl
@[go_sem] theorem f53_en : entersB Tryz.prog 53 = true := by kernel_rfl
@[go_sem] theorem f53_rs : Tryz.f53.results.toList = [.tmp 2] := by kernel_rfl
@[go_sem] theorem f53_nt : Tryz.f53.ntmps = 6 := by kernel_rfl
@[go_sem] theorem f54_en : entersB Tryz.prog 54 = true := by kernel_rfl
@[go_sem] theorem f54_rs : Tryz.f54.results.toList = [.cell 6 92] := by kernel_rfl
@[go_sem] theorem f54_nt : Tryz.f54.ntmps = 107 := by kernel_rfl
@[go_sem] theorem f55_en : entersB Tryz.prog 55 = true := by kernel_rfl
@[go_sem] theorem f55_rs : Tryz.f55.results.toList = [.tmp 2] := by kernel_rfl
@[go_sem] theorem f55_nt : Tryz.f55.ntmps = 4 := by kernel_rfl
@[go_sem] theorem f56_en : entersB Tryz.prog 56 = true := by kernel_rfl
@[go_sem] theorem f56_rs : Tryz.f56.results.toList = [.cell 4 34] := by kernel_rfl
@[go_sem] theorem f56_nt : Tryz.f56.ntmps = 16 := by kernel_rfl
@[go_sem] theorem f58_en : entersB Tryz.prog 58 = true := by kernel_rfl
@[go_sem] theorem f58_rs : Tryz.f58.results.toList = [.cell 0 92] := by kernel_rfl
@[go_sem] theorem f58_nt : Tryz.f58.ntmps = 2 := by kernel_rfl
@[go_sem] theorem f59_en : entersB Tryz.prog 59 = true := by kernel_rfl
@[go_sem] theorem f59_rs : Tryz.f59.results.toList = [.tmp 2] := by kernel_rfl
@[go_sem] theorem f59_nt : Tryz.f59.ntmps = 11 := by kernel_rfl
@[go_sem] theorem f62_en : entersB Tryz.prog 62 = true := by kernel_rfl
@[go_sem] theorem f62_rs : Tryz.f62.results.toList = [] := by kernel_rfl
@[go_sem] theorem f62_nt : Tryz.f62.ntmps = 34 := by kernel_rfl
@[go_sem] theorem f64_en : entersB Tryz.prog 64 = true := by kernel_rfl
@[go_sem] theorem f64_rs : Tryz.f64.results.toList = [.tmp 4] := by kernel_rfl
@[go_sem] theorem f64_nt : Tryz.f64.ntmps = 20 := by kernel_rfl
@[go_sem] theorem f68_en : entersB Tryz.prog 68 = true := by kernel_rfl
@[go_sem] theorem f68_rs : Tryz.f68.results.toList = [.tmp 2, .tmp 3] := by kernel_rfl
@[go_sem] theorem f68_nt : Tryz.f68.ntmps = 15 := by kernel_rfl
@[go_sem] theorem f69_en : entersB Tryz.prog 69 = true := by kernel_rfl
@[go_sem] theorem f69_rs : Tryz.f69.results.toList = [.tmp 2] := by kernel_rfl
@[go_sem] theorem f69_nt : Tryz.f69.ntmps = 15 := by kernel_rfl
@[go_sem] theorem f72_en : entersB Tryz.prog 72 = true := by kernel_rfl
@[go_sem] theorem f72_rs : Tryz.f72.results.toList = [.tmp 6] := by kernel_rfl
@[go_sem] theorem f72_nt : Tryz.f72.ntmps = 15 := by kernel_rfl
@[go_sem] theorem f73_en : entersB Tryz.prog 73 = true := by kernel_rfl
@[go_sem] theorem f73_rs : Tryz.f73.results.toList = [.cell 2 113, .tmp 3, .tmp 4] := by kernel_rfl
@[go_sem] theorem f73_nt : Tryz.f73.ntmps = 52 := by kernel_rfl
@[go_sem] theorem f81_en : entersB Tryz.prog 81 = true := by kernel_rfl
@[go_sem] theorem f81_rs : Tryz.f81.results.toList = [.cell 2 34] := by kernel_rfl
@[go_sem] theorem f81_nt : Tryz.f81.ntmps = 13 := by kernel_rfl
@[go_sem] theorem f88_en : entersB Tryz.prog 88 = true := by kernel_rfl
@[go_sem] theorem f88_rs : Tryz.f88.results.toList = [.tmp 4, .tmp 5] := by kernel_rfl
@[go_sem] theorem f88_nt : Tryz.f88.ntmps = 19 := by kernel_rfl
@[go_sem] theorem f89_en : entersB Tryz.prog 89 = true := by kernel_rfl
@[go_sem] theorem f92_en : entersB Tryz.prog 92 = true := by kernel_rfl
@[go_sem] theorem f107_rs : Tryz.f107.results.toList = [.tmp 2] := by kernel_rfl
@[go_sem] theorem f107_nt : Tryz.f107.ntmps = 7 := by kernel_rfl
@[go_sem] theorem f108_en : entersB Tryz.prog 108 = true := by kernel_rfl
@[go_sem] theorem f108_rs : Tryz.f108.results.toList = [.tmp 4] := by kernel_rfl
@[go_sem] theorem f108_nt : Tryz.f108.ntmps = 8 := by kernel_rfl
@[go_sem] theorem f112_en : entersB Tryz.prog 112 = true := by kernel_rfl
@[go_sem] theorem f112_rs : Tryz.f112.results.toList = [.tmp 4] := by kernel_rfl
@[go_sem] theorem f112_nt : Tryz.f112.ntmps = 160 := by kernel_rfl
@[go_sem] theorem f113_en : entersB Tryz.prog 113 = true := by kernel_rfl
@[go_sem] theorem f113_rs : Tryz.f113.results.toList = [.tmp 2] := by kernel_rfl
@[go_sem] theorem f113_nt : Tryz.f113.ntmps = 22 := by kernel_rfl
@[go_sem] theorem f116_en : entersB Tryz.prog 116 = true := by kernel_rfl
@[go_sem] theorem f116_rs : Tryz.f116.results.toList = [] := by kernel_rfl
@[go_sem] theorem f116_nt : Tryz.f116.ntmps = 25 := by kernel_rfl
@[go_sem] theorem f117_en : entersB Tryz.prog 117 = true := by kernel_rfl
@[go_sem] theorem f117_rs : Tryz.f117.results.toList = [.tmp 4] := by kernel_rfl
@[go_sem] theorem f117_nt : Tryz.f117.ntmps = 16 := by kernel_rfl
@[go_sem] theorem f118_en : entersB Tryz.prog 118 = true := by kernel_rfl
@[go_sem] theorem f118_rs : Tryz.f118.results.toList = [.cell 4 166] := by kernel_rfl
@[go_sem] theorem f118_nt : Tryz.f118.ntmps = 127 := by kernel_rfl
@[go_sem] theorem f119_en : entersB Tryz.prog 119 = true := by kernel_rfl
@[go_sem] theorem f119_rs : Tryz.f119.results.toList = [.tmp 2] := by kernel_rfl
@[go_sem] theorem f119_nt : Tryz.f119.ntmps = 7 := by kernel_rfl
@[go_sem] theorem f120_en : entersB Tryz.prog 120 = true := by kernel_rfl
@[go_sem] theorem f120_rs : Tryz.f120.results.toList = [.tmp 2] := by kernel_rfl
@[go_sem] theorem f120_nt : Tryz.f120.ntmps = 18 := by kernel_rfl
@[go_sem] theorem f121_en : entersB Tryz.prog 121 = true := by kernel_rfl
@[go_sem] theorem f121_rs : Tryz.f121.results.toList = [.tmp 2] := by kernel_rfl
@[go_sem] theorem f121_nt : Tryz.f121.ntmps = 54 := by kernel_rfl
@[go_sem] theorem f122_en : entersB Tryz.prog 122 = true := by kernel_rfl
@[go_sem] theorem f122_rs : Tryz.f122.results.toList = [.tmp 2] := by kernel_rfl
@[go_sem] theorem f122_nt : Tryz.f122.ntmps = 35 := by kernel_rfl
@[go_sem] theorem f123_en : entersB Tryz.prog 123 = true := by kernel_rfl
@[go_sem] theorem f123_rs : Tryz.f123.results.toList = [.tmp 6] := by kernel_rfl
@[go_sem] theorem f123_nt : Tryz.f123.ntmps = 15 := by kernel_rfl
@[go_sem] theorem f124_en : entersB Tryz.prog 124 = true := by kernel_rfl
@[go_sem] theorem f124_rs : Tryz.f124.results.toList = [.cell 5 92] := by kernel_rfl
@[go_sem] theorem f124_nt : Tryz.f124.ntmps = 16 := by kernel_rfl
@[go_sem] theorem f125_en : entersB Tryz.prog 125 = true := by kernel_rfl
@[go_sem] theorem f125_rs : Tryz.f125.results.toList = [.cell 6 92] := by kernel_rfl
@[go_sem] theorem f125_nt : Tryz.f125.ntmps = 20 := by kernel_rfl
@[go_sem] theorem f126_en : entersB Tryz.prog 126 = true := by kernel_rfl
@[go_sem] theorem f126_rs : Tryz.f126.results.toList = [.cell 4 92] := by kernel_rfl
@[go_sem] theorem f126_nt : Tryz.f126.ntmps = 10 := by kernel_rfl
@[go_sem] theorem f127_en : entersB Tryz.prog 127 = true := by kernel_rfl
@[go_sem] theorem f127_rs : Tryz.f127.results.toList = [.cell 6 92] := by kernel_rfl
@[go_sem] theorem f127_nt : Tryz.f127.ntmps = 88 := by kernel_rfl
@[go_sem] theorem f128_rs : Tryz.f128.results.toList = [.cell 5 92] := by kernel_rfl
@[go_sem] theorem f128_nt : Tryz.f128.ntmps = 36 := by kernel_rfl
@[go_sem] theorem f129_en : entersB Tryz.prog 129 = true := by kernel_rfl
@[go_sem] theorem f129_rs : Tryz.f129.results.toList = [.tmp 6, .tmp 7] := by kernel_rfl
@[go_sem] theorem f129_nt : Tryz.f129.ntmps = 49 := by kernel_rfl
@[go_sem] theorem f130_rs : Tryz.f130.results.toList = [.tmp 4] := by kernel_rfl
@[go_sem] theorem f130_nt : Tryz.f130.ntmps = 9 := by kernel_rfl
@[go_sem] theorem f131_rs : Tryz.f131.results.toList = [] := by kernel_rfl
@[go_sem] theorem f131_nt : Tryz.f131.ntmps = 9 := by kernel_rfl
@[go_sem] theorem f132_en : entersB Tryz.prog 132 = true := by kernel_rfl
@[go_sem] theorem f132_rs : Tryz.f132.results.toList = [] := by kernel_rfl
@[go_sem] theorem f132_nt : Tryz.f132.ntmps = 11 := by kernel_rfl
@[go_sem] theorem f133_en : entersB Tryz.prog 133 = true := by kernel_rfl
@[go_sem] theorem f133_rs : Tryz.f133.results.toList = [.tmp 2] := by kernel_rfl
@[go_sem] theorem f133_nt : Tryz.f133.ntmps = 61 := by kernel_rfl
@[go_sem] theorem f135_en : entersB Tryz.prog 135 = true := by kernel_rfl
@[go_sem] theorem f135_rs : Tryz.f135.results.toList = [.tmp 6, .tmp 7] := by kernel_rfl
@[go_sem] theorem f135_nt : Tryz.f135.ntmps = 49 := by kernel_rfl
@[go_sem] theorem f136_rs : Tryz.f136.results.toList = [.tmp 4] := by kernel_rfl
@[go_sem] theorem f136_nt : Tryz.f136.ntmps = 9 := by kernel_rfl
@[go_sem] theorem f137_en : entersB Tryz.prog 137 = true := by kernel_rfl
@[go_sem] theorem f137_rs : Tryz.f137.results.toList = [.tmp 4] := by kernel_rfl
@[go_sem] theorem f137_nt : Tryz.f137.ntmps = 8 := by kernel_rfl
@[go_sem] theorem f139_en : entersB Tryz.prog 139 = true := by kernel_rfl
@[go_sem] theorem f139_rs : Tryz.f139.results.toList = [.tmp 2] := by kernel_rfl
@[go_sem] theorem f139_nt : Tryz.f139.ntmps = 8 := by kernel_rfl
@[go_sem] theorem f140_en : entersB Tryz.prog 140 = true := by kernel_rfl
@[go_sem] theorem f140_rs : Tryz.f140.results.toList = [.tmp 4] := by kernel_rfl
@[go_sem] theorem f140_nt : Tryz.f140.ntmps = 18 := by kernel_rfl
@[go_sem] theorem f141_en : entersB Tryz.prog 141 = true := by kernel_rfl
@[go_sem] theorem f141_rs : Tryz.f141.results.toList = [.tmp 2] := by kernel_rfl
@[go_sem] theorem f141_nt : Tryz.f141.ntmps = 94 := by kernel_rfl
@[go_sem] theorem f142_en : entersB Tryz.prog 142 = true := by kernel_rfl
@[go_sem] theorem f142_rs : Tryz.f142.results.toList = [.cell 2 113] := by kernel_rfl
@[go_sem] theorem f142_nt : Tryz.f142.ntmps = 36 := by kernel_rfl
@[go_sem] theorem f143_en : entersB Tryz.prog 143 = true := by kernel_rfl
@[go_sem] theorem f143_rs : Tryz.f143.results.toList = [.tmp 2] := by kernel_rfl
@[go_sem] theorem f143_nt : Tryz.f143.ntmps = 10 := by kernel_rfl
@[go_sem] theorem f144_en : entersB Tryz.prog 144 = true := by kernel_rfl
@[go_sem] theorem f144_rs : Tryz.f144.results.toList = [.cell 2 113] := by kernel_rfl
@[go_sem] theorem f144_nt : Tryz.f144.ntmps = 19 := by kernel_rfl
@[go_sem] theorem f158_en : entersB Tryz.prog 158 = true := by kernel_rfl
@[go_sem] theorem f164_en : entersB Tryz.prog 164 = true := by kernel_rfl
@[go_sem] theorem f164_rs : Tryz.f164.results.toList = [.tmp 4] := by kernel_rfl
@[go_sem] theorem f164_nt : Tryz.f164.ntmps = 75 := by kernel_rfl
@[go_sem] theorem f173_en : entersB Tryz.prog 173 = true := by kernel_rfl
@[go_sem] theorem f173_rs : Tryz.f173.results.toList = [.tmp 4, .tmp 5] := by kernel_rfl
@[go_sem] theorem f173_nt : Tryz.f173.ntmps = 38 := by kernel_rfl
@[go_sem] theorem f177_en : entersB Tryz.prog 177 = true := by kernel_rfl
@[go_sem] theorem f177_rs : Tryz.f177.results.toList = [.tmp 4] := by kernel_rfl
@[go_sem] theorem f177_nt : Tryz.f177.ntmps = 143 := by kernel_rfl
@[go_sem] theorem f180_rs : Tryz.f180.results.toList = [.tmp 4] := by kernel_rfl
@[go_sem] theorem f180_nt : Tryz.f180.ntmps = 22 := by kernel_rfl
@[go_sem] theorem f186_en : entersB Tryz.prog 186 = true := by kernel_rfl
@[go_sem] theorem f186_rs : Tryz.f186.results.toList = [.tmp 2] := by kernel_rfl
@[go_sem] theorem f186_nt : Tryz.f186.ntmps = 12 := by kernel_rfl
@[go_sem] theorem f187_en : entersB Tryz.prog 187 = true := by kernel_rfl
@[go_sem] theorem f187_rs : Tryz.f187.results.toList = [.tmp 2] := by kernel_rfl
@[go_sem] theorem f187_nt : Tryz.f187.ntmps = 16 := by kernel_rfl
@[go_sem] theorem f190_en : entersB Tryz.prog 190 = true := by kernel_rfl
@[go_sem] theorem f190_rs : Tryz.f190.results.toList = [.tmp 4] := by kernel_rfl
@[go_sem] theorem f190_nt : Tryz.f190.ntmps = 18 := by kernel_rfl
@[go_sem] theorem f191_en : entersB Tryz.prog 191 = true := by kernel_rfl
@[go_sem] theorem f192_en : entersB Tryz.prog 192 = true := by kernel_rfl
@[go_sem] theorem f192_rs : Tryz.f192.results.toList = [.tmp 2] := by kernel_rfl
@[go_sem] theorem f192_nt : Tryz.f192.ntmps = 9 := by kernel_rfl
@[go_sem] theorem f193_en : entersB Tryz.prog 193 = true := by kernel_rfl
@[go_sem] theorem f193_rs : Tryz.f193.results.toList = [.tmp 2] := by kernel_rfl
@[go_sem] theorem f193_nt : Tryz.f193.ntmps = 9 := by kernel_rfl
@[go_sem] theorem f194_en : entersB Tryz.prog 194 = true := by kernel_rfl
@[go_sem] theorem f194_rs : Tryz.f194.results.toList = [.tmp 4] := by kernel_rfl
@[go_sem] theorem f194_nt : Tryz.f194.ntmps = 8 := by kernel_rfl
@[go_sem] theorem f195_en : entersB Tryz.prog 195 = true := by kernel_rfl
@[go_sem] theorem f195_rs : Tryz.f195.results.toList = [.tmp 8] := by kernel_rfl
@[go_sem] theorem f195_nt : Tryz.f195.ntmps = 54 := by kernel_rfl
@[go_sem] theorem f196_rs : Tryz.f196.results.toList = [.tmp 2] := by kernel_rfl
@[go_sem] theorem f196_nt : Tryz.f196.ntmps = 7 := by kernel_rfl
@[go_sem] theorem f197_en : entersB Tryz.prog 197 = true := by kernel_rfl
@[go_sem] theorem f197_rs : Tryz.f197.results.toList = [.tmp 2] := by kernel_rfl
@[go_sem] theorem f197_nt : Tryz.f197.ntmps = 25 := by kernel_rfl
@[go_sem] theorem f198_en : entersB Tryz.prog 198 = true := by kernel_rfl
@[go_sem] theorem f198_rs : Tryz.f198.results.toList = [.tmp 4] := by kernel_rfl
@[go_sem] theorem f198_nt : Tryz.f198.ntmps = 22 := by kernel_rfl
@[go_sem] theorem f199_en : entersB Tryz.prog 199 = true := by kernel_rfl
@[go_sem] theorem f199_rs : Tryz.f199.results.toList = [] := by kernel_rfl
@[go_sem] theorem f199_nt : Tryz.f199.ntmps = 134 := by kernel_rfl
@[go_sem] theorem f200_en : entersB Tryz.prog 200 = true := by kernel_rfl
@[go_sem] theorem f200_rs : Tryz.f200.results.toList = [.tmp 4] := by kernel_rfl
@[go_sem] theorem f200_nt : Tryz.f200.ntmps = 8 := by kernel_rfl
@[go_sem] theorem f211_en : entersB Tryz.prog 211 = true := by kernel_rfl
@[go_sem] theorem f211_rs : Tryz.f211.results.toList = [.tmp 2] := by kernel_rfl
@[go_sem] theorem f211_nt : Tryz.f211.ntmps = 25 := by kernel_rfl
@[go_sem] theorem f212_en : entersB Tryz.prog 212 = true := by kernel_rfl
@[go_sem] theorem f212_rs : Tryz.f212.results.toList = [.cell 6 113] := by kernel_rfl
@[go_sem] theorem f212_nt : Tryz.f212.ntmps = 35 := by kernel_rfl
@[go_sem] theorem f213_rs : Tryz.f213.results.toList = [.cell 1 113] := by kernel_rfl
@[go_sem] theorem f213_nt : Tryz.f213.ntmps = 6 := by kernel_rfl
@[go_sem] theorem f214_en : entersB Tryz.prog 214 = true := by kernel_rfl
@[go_sem] theorem f214_rs : Tryz.f214.results.toList = [.cell 2 113] := by kernel_rfl
@[go_sem] theorem f214_nt : Tryz.f214.ntmps = 89 := by kernel_rfl
@[go_sem] theorem f215_en : entersB Tryz.prog 215 = true := by kernel_rfl
@[go_sem] theorem f215_rs : Tryz.f215.results.toList = [.cell 2 248] := by kernel_rfl
@[go_sem] theorem f215_nt : Tryz.f215.ntmps = 47 := by kernel_rfl
@[go_sem] theorem f216_rs : Tryz.f216.results.toList = [.cell 1 113] := by kernel_rfl
@[go_sem] theorem f216_nt : Tryz.f216.ntmps = 6 := by kernel_rfl
@[go_sem] theorem f221_en : entersB Tryz.prog 221 = true := by kernel_rfl
@[go_sem] theorem f221_rs : Tryz.f221.results.toList = [.tmp 2] := by kernel_rfl
@[go_sem] theorem f221_nt : Tryz.f221.ntmps = 18 := by kernel_rfl
@[go_sem] theorem f222_en : entersB Tryz.prog 222 = true := by kernel_rfl
@[go_sem] theorem f222_rs : Tryz.f222.results.toList = [.tmp 4] := by kernel_rfl
@[go_sem] theorem f222_nt : Tryz.f222.ntmps = 20 := by kernel_rfl
@[go_sem] theorem f230_en : entersB Tryz.prog 230 = true := by kernel_rfl
@[go_sem] theorem f230_rs : Tryz.f230.results.toList = [.tmp 4] := by kernel_rfl
@[go_sem] theorem f230_nt : Tryz.f230.ntmps = 8 := by kernel_rfl
@[go_sem] theorem f231_en : entersB Tryz.prog 231 = true := by kernel_rfl
@[go_sem] theorem f232_en : entersB Tryz.prog 232 = true := by kernel_rfl
@[go_sem] theorem f232_rs : Tryz.f232.results.toList = [.tmp 4] := by kernel_rfl
@[go_sem] theorem f232_nt : Tryz.f232.ntmps = 8 := by kernel_rfl
@[go_sem] theorem f240_en : entersB Tryz.prog 240 = true := by kernel_rfl
@[go_sem] theorem f240_rs : Tryz.f240.results.toList = [] := by kernel_rfl
@[go_sem] theorem f240_nt : Tryz.f240.ntmps = 42 := by kernel_rfl
@[go_sem] theorem f241_rs : Tryz.f241.results.toList = [.tmp 2] := by kernel_rfl
@[go_sem] theorem f241_nt : Tryz.f241.ntmps = 7 := by kernel_rfl
@[go_sem] theorem f242_en : entersB Tryz.prog 242 = true := by kernel_rfl
@[go_sem] theorem f242_rs : Tryz.f242.results.toList = [] := by kernel_rfl
@[go_sem] theorem f242_nt : Tryz.f242.ntmps = 49 := by kernel_rfl
@[go_sem] theorem f257_en : entersB Tryz.prog 257 = true := by kernel_rfl
@[go_sem] theorem f257_rs : Tryz.f257.results.toList = [.tmp 2] := by kernel_rfl
@[go_sem] theorem f257_nt : Tryz.f257.ntmps = 6 := by kernel_rfl
@[go_sem] theorem f258_en : entersB Tryz.prog 258 = true := by kernel_rfl
@[go_sem] theorem f258_rs : Tryz.f258.results.toList = [.tmp 4, .tmp 5] := by kernel_rfl
@[go_sem] theorem f258_nt : Tryz.f258.ntmps = 21 := by kernel_rfl
@[go_sem] theorem f259_en : entersB Tryz.prog 259 = true := by kernel_rfl
@[go_sem] theorem f259_rs : Tryz.f259.results.toList = [] := by kernel_rfl
@[go_sem] theorem f259_nt : Tryz.f259.ntmps = 18 := by kernel_rfl
@[go_sem] theorem f260_en : entersB Tryz.prog 260 = true := by kernel_rfl
@[go_sem] theorem f260_rs : Tryz.f260.results.toList = [.cell 2 113] := by kernel_rfl
@[go_sem] theorem f260_nt : Tryz.f260.ntmps = 107 := by kernel_rfl
@[go_sem] theorem f269_en : entersB Tryz.prog 269 = true := by kernel_rfl
@[go_sem] theorem f269_rs : Tryz.f269.results.toList = [.tmp 4] := by kernel_rfl
@[go_sem] theorem f269_nt : Tryz.f269.ntmps = 13 := by kernel_rfl
@[go_sem] theorem f283_en : entersB Tryz.prog 283 = true := by kernel_rfl
@[go_sem] theorem f283_rs : Tryz.f283.results.toList = [.tmp 2] := by kernel_rfl
@[go_sem] theorem f283_nt : Tryz.f283.ntmps = 87 := by kernel_rfl
@[go_sem] theorem f289_en : entersB Tryz.prog 289 = true := by kernel_rfl
@[go_sem] theorem f289_rs : Tryz.f289.results.toList = [.tmp 4] := by kernel_rfl
@[go_sem] theorem f289_nt : Tryz.f289.ntmps = 20 := by kernel_rfl
@[go_sem] theorem f290_en : entersB Tryz.prog 290 = true := by kernel_rfl
@[go_sem] theorem f290_rs : Tryz.f290.results.toList = [.tmp 2] := by kernel_rfl
@[go_sem] theorem f290_nt : Tryz.f290.ntmps = 7 := by kernel_rfl
@[go_sem] theorem f308_en : entersB Tryz.prog 308 = true := by kernel_rfl
@[go_sem] theorem f308_rs : Tryz.f308.results.toList = [.tmp 4] := by kernel_rfl
@[go_sem] theorem f308_nt : Tryz.f308.ntmps = 20 := by kernel_rfl
@[go_sem] theorem f309_en : entersB Tryz.prog 309 = true := by kernel_rfl
@[go_sem] theorem f309_rs : Tryz.f309.results.toList = [.tmp 2] := by kernel_rfl
@[go_sem] theorem f309_nt : Tryz.f309.ntmps = 26 := by kernel_rfl
@[go_sem] theorem f310_en : entersB Tryz.prog 310 = true := by kernel_rfl
@[go_sem] theorem f310_rs : Tryz.f310.results.toList = [.tmp 4] := by kernel_rfl
@[go_sem] theorem f310_nt : Tryz.f310.ntmps = 62 := by kernel_rfl
@[go_sem] theorem f311_en : entersB Tryz.prog 311 = true := by kernel_rfl
@[go_sem] theorem f311_rs : Tryz.f311.results.toList = [.tmp 4] := by kernel_rfl
@[go_sem] theorem f311_nt : Tryz.f311.ntmps = 44 := by kernel_rfl
@[go_sem] theorem f320_en : entersB Tryz.prog 320 = true := by kernel_rfl
@[go_sem] theorem f320_rs : Tryz.f320.results.toList = [] := by kernel_rfl
@[go_sem] theorem f320_nt : Tryz.f320.ntmps = 19 := by kernel_rfl
@[go_sem] theorem f251_en : entersB Tryz.prog 251 = false := by kernel_rfl
@[go_sem] theorem f272_en : entersB Tryz.prog 272 = false := by kernel_rfl
end Go.Proofs.YtflklkijfkmeiaaGreatDoor
