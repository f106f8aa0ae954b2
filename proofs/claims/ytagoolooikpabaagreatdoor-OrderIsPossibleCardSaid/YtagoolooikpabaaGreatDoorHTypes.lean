/- Facts on the types. No condition. -/
import Derived.Test.YtagoolooikpabaaGreatDoorProg
import Derived.Test.YtagoolooikpabaaGreatDoorHCoreC
namespace Go.Proofs.YtagoolooikpabaaGreatDoor
open Go Go.RowKit
@[go_sem] theorem t3_ag : aggT Tryz.prog 3 = false := by kernel_rfl
@[go_sem] theorem t3_sz : szT Tryz.prog 3 = 1 := by kernel_rfl
@[go_sem] theorem t3_in : (Tryz.prog.info? 3).isSome = true := by kernel_rfl
@[go_sem] theorem t3_un : (Tryz.prog.underlying 3).isSome = true := by kernel_rfl
@[go_sem] theorem t3_ze : zeroT Tryz.prog 3 = some [.int .i64 0] := by kernel_rfl
@[go_sem] theorem t4_sz : szT Tryz.prog 4 = 1 := by kernel_rfl
@[go_sem] theorem t4_in : (Tryz.prog.info? 4).isSome = true := by kernel_rfl
@[go_sem] theorem t5_ag : aggT Tryz.prog 5 = false := by kernel_rfl
@[go_sem] theorem t5_sz : szT Tryz.prog 5 = 1 := by kernel_rfl
@[go_sem] theorem t5_in : (Tryz.prog.info? 5).isSome = true := by kernel_rfl
@[go_sem] theorem t5_un : (Tryz.prog.underlying 5).isSome = true := by kernel_rfl
@[go_sem] theorem t5_ze : zeroT Tryz.prog 5 = some [.int .u8 0] := by kernel_rfl
@[go_sem] theorem t9_ag : aggT Tryz.prog 9 = false := by kernel_rfl
@[go_sem] theorem t9_sz : szT Tryz.prog 9 = 1 := by kernel_rfl
@[go_sem] theorem t9_in : (Tryz.prog.info? 9).isSome = true := by kernel_rfl
@[go_sem] theorem t9_ze : zeroT Tryz.prog 9 = some [.str ⟨#[]⟩] := by kernel_rfl
@[go_sem] theorem t9_by : Tryz.prog.bytesOf 9 = 16 := by kernel_rfl
@[go_sem] theorem t22_ag : aggT Tryz.prog 22 = false := by kernel_rfl
@[go_sem] theorem t22_sz : szT Tryz.prog 22 = 1 := by kernel_rfl
@[go_sem] theorem t22_in : (Tryz.prog.info? 22).isSome = true := by kernel_rfl
@[go_sem] theorem t22_un : (Tryz.prog.underlying 22).isSome = true := by kernel_rfl
@[go_sem] theorem t23_ag : aggT Tryz.prog 23 = false := by kernel_rfl
@[go_sem] theorem t23_sz : szT Tryz.prog 23 = 1 := by kernel_rfl
@[go_sem] theorem t23_in : (Tryz.prog.info? 23).isSome = true := by kernel_rfl
@[go_sem] theorem t23_un : (Tryz.prog.underlying 23).isSome = true := by kernel_rfl
@[go_sem] theorem t25_ze : zeroT Tryz.prog 25 = some [.sl none 0, .int .i64 0] := by kernel_rfl
@[go_sem] theorem t25_fo : fieldsOk Tryz.prog 25 = true := by kernel_rfl
@[go_sem] theorem t26_ag : aggT Tryz.prog 26 = false := by kernel_rfl
@[go_sem] theorem t26_sz : szT Tryz.prog 26 = 1 := by kernel_rfl
@[go_sem] theorem t26_in : (Tryz.prog.info? 26).isSome = true := by kernel_rfl
@[go_sem] theorem t26_un : (Tryz.prog.underlying 26).isSome = true := by kernel_rfl
@[go_sem] theorem t26_ze : zeroT Tryz.prog 26 = some [.sl none 0] := by kernel_rfl
@[go_sem] theorem t29_ag : aggT Tryz.prog 29 = false := by kernel_rfl
@[go_sem] theorem t29_sz : szT Tryz.prog 29 = 1 := by kernel_rfl
@[go_sem] theorem t29_in : (Tryz.prog.info? 29).isSome = true := by kernel_rfl
@[go_sem] theorem t29_un : (Tryz.prog.underlying 29).isSome = true := by kernel_rfl
@[go_sem] theorem t29_ze : zeroT Tryz.prog 29 = some [.sl none 0] := by kernel_rfl
@[go_sem] theorem t60_ag : aggT Tryz.prog 60 = true := by kernel_rfl
@[go_sem] theorem t60_sz : szT Tryz.prog 60 = 2 := by kernel_rfl
@[go_sem] theorem t60_in : (Tryz.prog.info? 60).isSome = true := by kernel_rfl
@[go_sem] theorem t60_un : (Tryz.prog.underlying 60).isSome = true := by kernel_rfl
@[go_sem] theorem t60_ze : zeroT Tryz.prog 60 = some [.str ⟨#[]⟩, .str ⟨#[]⟩] := by kernel_rfl
@[go_sem] theorem t60_fo : fieldsOk Tryz.prog 60 = true := by kernel_rfl
@[go_sem] theorem t76_ag : aggT Tryz.prog 76 = false := by kernel_rfl
@[go_sem] theorem t76_sz : szT Tryz.prog 76 = 1 := by kernel_rfl
@[go_sem] theorem t76_in : (Tryz.prog.info? 76).isSome = true := by kernel_rfl
@[go_sem] theorem t76_un : (Tryz.prog.underlying 76).isSome = true := by kernel_rfl
@[go_sem] theorem t79_ag : aggT Tryz.prog 79 = false := by kernel_rfl
@[go_sem] theorem t79_sz : szT Tryz.prog 79 = 1 := by kernel_rfl
@[go_sem] theorem t79_in : (Tryz.prog.info? 79).isSome = true := by kernel_rfl
@[go_sem] theorem t79_un : (Tryz.prog.underlying 79).isSome = true := by kernel_rfl
@[go_sem] theorem t79_ze : zeroT Tryz.prog 79 = some [.map none] := by kernel_rfl
@[go_sem] theorem t82_ag : aggT Tryz.prog 82 = false := by kernel_rfl
@[go_sem] theorem t82_sz : szT Tryz.prog 82 = 1 := by kernel_rfl
@[go_sem] theorem t82_in : (Tryz.prog.info? 82).isSome = true := by kernel_rfl
@[go_sem] theorem t82_un : (Tryz.prog.underlying 82).isSome = true := by kernel_rfl
@[go_sem] theorem t82_ze : zeroT Tryz.prog 82 = some [.map none] := by kernel_rfl
@[go_sem] theorem t83_ag : aggT Tryz.prog 83 = false := by kernel_rfl
@[go_sem] theorem t83_sz : szT Tryz.prog 83 = 1 := by kernel_rfl
@[go_sem] theorem t83_in : (Tryz.prog.info? 83).isSome = true := by kernel_rfl
@[go_sem] theorem t83_un : (Tryz.prog.underlying 83).isSome = true := by kernel_rfl
@[go_sem] theorem t83_ze : zeroT Tryz.prog 83 = some [.ptr none] := by kernel_rfl
@[go_sem] theorem t130_un : (Tryz.prog.underlying 130).isSome = true := by kernel_rfl
@[go_sem] theorem t159_ze : zeroT Tryz.prog 159 = some [.int .u32 0, .int .i32 0, .int .u32 0, .nili, .sl none 0] := by kernel_rfl
@[go_sem] theorem t159_fo : fieldsOk Tryz.prog 159 = true := by kernel_rfl
@[go_sem] theorem t171_ag : aggT Tryz.prog 171 = false := by kernel_rfl
@[go_sem] theorem t171_sz : szT Tryz.prog 171 = 1 := by kernel_rfl
@[go_sem] theorem t171_in : (Tryz.prog.info? 171).isSome = true := by kernel_rfl
@[go_sem] theorem t171_un : (Tryz.prog.underlying 171).isSome = true := by kernel_rfl
@[go_sem] theorem t173_ag : aggT Tryz.prog 173 = true := by kernel_rfl
@[go_sem] theorem t173_sz : szT Tryz.prog 173 = 5 := by kernel_rfl
@[go_sem] theorem t173_in : (Tryz.prog.info? 173).isSome = true := by kernel_rfl
@[go_sem] theorem t173_un : (Tryz.prog.underlying 173).isSome = true := by kernel_rfl
@[go_sem] theorem t173_ze : zeroT Tryz.prog 173 = some [.int .u8 0, .str ⟨#[]⟩, .int .i64 0, .sl none 0, .int .i64 0] := by kernel_rfl
@[go_sem] theorem t173_fo : fieldsOk Tryz.prog 173 = true := by kernel_rfl
@[go_sem] theorem t214_ag : aggT Tryz.prog 214 = true := by kernel_rfl
@[go_sem] theorem t214_sz : szT Tryz.prog 214 = 3 := by kernel_rfl
@[go_sem] theorem t214_in : (Tryz.prog.info? 214).isSome = true := by kernel_rfl
@[go_sem] theorem t214_un : (Tryz.prog.underlying 214).isSome = true := by kernel_rfl
@[go_sem] theorem t214_ze : zeroT Tryz.prog 214 = some [.int .i64 0, .int .i64 0, .str ⟨#[]⟩] := by kernel_rfl
@[go_sem] theorem t214_fo : fieldsOk Tryz.prog 214 = true := by kernel_rfl
@[go_sem] theorem t216_ze : zeroT Tryz.prog 216 = some [.str ⟨#[]⟩, .int .i64 0, .int .i64 0, .str ⟨#[]⟩, .int .i64 0, .int .i64 0, .int .i64 0] := by kernel_rfl
@[go_sem] theorem t216_fo : fieldsOk Tryz.prog 216 = true := by kernel_rfl
@[go_sem] theorem t231_ag : aggT Tryz.prog 231 = false := by kernel_rfl
@[go_sem] theorem t231_sz : szT Tryz.prog 231 = 1 := by kernel_rfl
@[go_sem] theorem t231_in : (Tryz.prog.info? 231).isSome = true := by kernel_rfl
@[go_sem] theorem t231_un : (Tryz.prog.underlying 231).isSome = true := by kernel_rfl
@[go_sem] theorem t233_ze : zeroT Tryz.prog 233 = some [.str ⟨#[]⟩, .int .i64 0, .str ⟨#[]⟩, .sl none 0, .bool false] := by kernel_rfl
@[go_sem] theorem t233_fo : fieldsOk Tryz.prog 233 = true := by kernel_rfl
@[go_sem] theorem t239_ag : aggT Tryz.prog 239 = false := by kernel_rfl
@[go_sem] theorem t239_sz : szT Tryz.prog 239 = 1 := by kernel_rfl
@[go_sem] theorem t239_in : (Tryz.prog.info? 239).isSome = true := by kernel_rfl
@[go_sem] theorem t239_un : (Tryz.prog.underlying 239).isSome = true := by kernel_rfl
@[go_sem] theorem t240_ag : aggT Tryz.prog 240 = false := by kernel_rfl
@[go_sem] theorem t240_sz : szT Tryz.prog 240 = 1 := by kernel_rfl
@[go_sem] theorem t240_in : (Tryz.prog.info? 240).isSome = true := by kernel_rfl
@[go_sem] theorem t240_un : (Tryz.prog.underlying 240).isSome = true := by kernel_rfl
@[go_sem] theorem t243_ze : zeroT Tryz.prog 243 = some [.sl none 0, .int .i64 0, .int .i64 0, .int .i64 0] := by kernel_rfl
@[go_sem] theorem t243_fo : fieldsOk Tryz.prog 243 = true := by kernel_rfl
@[go_sem] theorem t291_un : (Tryz.prog.underlying 291).isSome = true := by kernel_rfl
@[go_sem] theorem t293_ag : aggT Tryz.prog 293 = true := by kernel_rfl
@[go_sem] theorem t293_sz : szT Tryz.prog 293 = 3 := by kernel_rfl
@[go_sem] theorem t293_in : (Tryz.prog.info? 293).isSome = true := by kernel_rfl
@[go_sem] theorem t293_un : (Tryz.prog.underlying 293).isSome = true := by kernel_rfl
@[go_sem] theorem t293_ze : zeroT Tryz.prog 293 = some [.int .u8 0, .str ⟨#[]⟩, .int .i64 0] := by kernel_rfl
@[go_sem] theorem t293_fo : fieldsOk Tryz.prog 293 = true := by kernel_rfl
@[go_sem] theorem t25_f0 : fieldT Tryz.prog 25 0 = some (0, 1) := by kernel_rfl
@[go_sem] theorem t25_f1 : fieldT Tryz.prog 25 1 = some (1, 1) := by kernel_rfl
@[go_sem] theorem t60_f0 : fieldT Tryz.prog 60 0 = some (0, 1) := by kernel_rfl
@[go_sem] theorem t60_f1 : fieldT Tryz.prog 60 1 = some (1, 1) := by kernel_rfl
@[go_sem] theorem t99_f0 : fieldT Tryz.prog 99 0 = some (0, 1) := by kernel_rfl
@[go_sem] theorem t99_f1 : fieldT Tryz.prog 99 1 = some (1, 1) := by kernel_rfl
@[go_sem] theorem t99_f2 : fieldT Tryz.prog 99 2 = some (2, 1) := by kernel_rfl
@[go_sem] theorem t159_f2 : fieldT Tryz.prog 159 2 = some (4, 1) := by kernel_rfl
@[go_sem] theorem t173_f0 : fieldT Tryz.prog 173 0 = some (0, 1) := by kernel_rfl
@[go_sem] theorem t173_f1 : fieldT Tryz.prog 173 1 = some (1, 1) := by kernel_rfl
@[go_sem] theorem t173_f2 : fieldT Tryz.prog 173 2 = some (2, 1) := by kernel_rfl
@[go_sem] theorem t173_f3 : fieldT Tryz.prog 173 3 = some (3, 1) := by kernel_rfl
@[go_sem] theorem t173_f4 : fieldT Tryz.prog 173 4 = some (4, 1) := by kernel_rfl
@[go_sem] theorem t214_f0 : fieldT Tryz.prog 214 0 = some (0, 1) := by kernel_rfl
@[go_sem] theorem t214_f1 : fieldT Tryz.prog 214 1 = some (1, 1) := by kernel_rfl
@[go_sem] theorem t214_f2 : fieldT Tryz.prog 214 2 = some (2, 1) := by kernel_rfl
@[go_sem] theorem t216_f0 : fieldT Tryz.prog 216 0 = some (0, 1) := by kernel_rfl
@[go_sem] theorem t216_f1 : fieldT Tryz.prog 216 1 = some (1, 3) := by kernel_rfl
@[go_sem] theorem t216_f2 : fieldT Tryz.prog 216 2 = some (4, 1) := by kernel_rfl
@[go_sem] theorem t216_f3 : fieldT Tryz.prog 216 3 = some (5, 1) := by kernel_rfl
@[go_sem] theorem t216_f4 : fieldT Tryz.prog 216 4 = some (6, 1) := by kernel_rfl
@[go_sem] theorem t233_f0 : fieldT Tryz.prog 233 0 = some (0, 1) := by kernel_rfl
@[go_sem] theorem t233_f1 : fieldT Tryz.prog 233 1 = some (1, 1) := by kernel_rfl
@[go_sem] theorem t233_f2 : fieldT Tryz.prog 233 2 = some (2, 1) := by kernel_rfl
@[go_sem] theorem t233_f3 : fieldT Tryz.prog 233 3 = some (3, 1) := by kernel_rfl
@[go_sem] theorem t233_f4 : fieldT Tryz.prog 233 4 = some (4, 1) := by kernel_rfl
@[go_sem] theorem t243_f0 : fieldT Tryz.prog 243 0 = some (0, 1) := by kernel_rfl
@[go_sem] theorem t243_f1 : fieldT Tryz.prog 243 1 = some (1, 1) := by kernel_rfl
@[go_sem] theorem t243_f2 : fieldT Tryz.prog 243 2 = some (2, 1) := by kernel_rfl
@[go_sem] theorem t243_f3 : fieldT Tryz.prog 243 3 = some (3, 1) := by kernel_rfl
@[go_sem] theorem t293_f0 : fieldT Tryz.prog 293 0 = some (0, 1) := by kernel_rfl
@[go_sem] theorem t293_f1 : fieldT Tryz.prog 293 1 = some (1, 1) := by kernel_rfl
@[go_sem] theorem t293_f2 : fieldT Tryz.prog 293 2 = some (2, 1) := by kernel_rfl
@[go_sem] theorem t9_st : strT Tryz.prog 9 = true := by kernel_rfl
@[go_sem] theorem t9_el : elemT Tryz.prog 9 = none := by kernel_rfl
@[go_sem] theorem t9_us : Tryz.prog.underlying 9 = some .string := by kernel_rfl
@[go_sem] theorem t22_el : elemT Tryz.prog 22 = some 3 := by kernel_rfl
@[go_sem] theorem t26_el : elemT Tryz.prog 26 = some 60 := by kernel_rfl
@[go_sem] theorem t29_el : elemT Tryz.prog 29 = some 9 := by kernel_rfl
@[go_sem] theorem t29_st : strT Tryz.prog 29 = false := by kernel_rfl
@[go_sem] theorem t130_el : elemT Tryz.prog 130 = some 5 := by kernel_rfl
@[go_sem] theorem t171_el : elemT Tryz.prog 171 = some 173 := by kernel_rfl
@[go_sem] theorem t231_el : elemT Tryz.prog 231 = some 83 := by kernel_rfl
@[go_sem] theorem t240_el : elemT Tryz.prog 240 = some 293 := by kernel_rfl
@[go_sem] theorem t240_st : strT Tryz.prog 240 = false := by kernel_rfl
@[go_sem] theorem t3_ik : intK Tryz.prog 3 = some .i64 := by kernel_rfl
@[go_sem] theorem t5_ik : intK Tryz.prog 5 = some .u8 := by kernel_rfl
@[go_sem] theorem t9_ik : intK Tryz.prog 9 = none := by kernel_rfl
@[go_sem] theorem t236_ik : intK Tryz.prog 236 = some .u64 := by kernel_rfl
@[go_sem] theorem t3_bt : bytesT Tryz.prog 3 = false := by kernel_rfl
@[go_sem] theorem t5_bt : bytesT Tryz.prog 5 = false := by kernel_rfl
@[go_sem] theorem t9_bt : bytesT Tryz.prog 9 = false := by kernel_rfl
@[go_sem] theorem t130_bt : bytesT Tryz.prog 130 = true := by kernel_rfl
@[go_sem] theorem t236_bt : bytesT Tryz.prog 236 = false := by kernel_rfl
@[go_sem] theorem t291_bt : bytesT Tryz.prog 291 = false := by kernel_rfl
@[go_sem] theorem t293_k0 : fieldK Tryz.prog 293 0 = some (0, 1, false) := by kernel_rfl
@[go_sem] theorem t4_kd : kindT Tryz.prog 4 = 1 := by kernel_rfl
@[go_sem] theorem t83_kd : kindT Tryz.prog 83 = 2 := by kernel_rfl
@[go_sem] theorem t226_kd : kindT Tryz.prog 226 = 6 := by kernel_rfl
@[go_sem] theorem f5_rs : Tryz.f5.results.toList = [.tmp 2] := by kernel_rfl
@[go_sem] theorem f5_nt : Tryz.f5.ntmps = 138 := by kernel_rfl
@[go_sem] theorem f6_en : entersB Tryz.prog 6 = true := by kernel_rfl
@[go_sem] theorem f6_rs : Tryz.f6.results.toList = [.tmp 2] := by kernel_rfl
@[go_sem] theorem f6_nt : Tryz.f6.ntmps = 95 := by kernel_rfl
@[go_sem] theorem f7_en : entersB Tryz.prog 7 = true := by kernel_rfl
@[go_sem] theorem f7_rs : Tryz.f7.results.toList = [.tmp 4] := by kernel_rfl
@[go_sem] theorem f7_nt : Tryz.f7.ntmps = 12 := by kernel_rfl
@[go_sem] theorem f8_en : entersB Tryz.prog 8 = true := by kernel_rfl
@[go_sem] theorem f8_rs : Tryz.f8.results.toList = [.tmp 2, .tmp 3] := by kernel_rfl
@[go_sem] theorem f8_nt : Tryz.f8.ntmps = 21 := by kernel_rfl
@[go_sem] theorem f9_en : entersB Tryz.prog 9 = true := by kernel_rfl
@[go_sem] theorem f9_rs : Tryz.f9.results.toList = [.tmp 2, .tmp 3] := by kernel_rfl
@[go_sem] theorem f9_nt : Tryz.f9.ntmps = 84 := by kernel_rfl
@[go_sem] theorem f10_en : entersB Tryz.prog 10 = true := by kernel_rfl
@[go_sem] theorem f10_rs : Tryz.f10.results.toList = [.tmp 4, .tmp 5] := by kernel_rfl
@[go_sem] theorem f10_nt : Tryz.f10.ntmps = 51 := by kernel_rfl
@[go_sem] theorem f11_en : entersB Tryz.prog 11 = true := by kernel_rfl
@[go_sem] theorem f11_rs : Tryz.f11.results.toList = [.tmp 2] := by kernel_rfl
@[go_sem] theorem f11_nt : Tryz.f11.ntmps = 50 := by kernel_rfl
@[go_sem] theorem f17_en : entersB Tryz.prog 17 = true := by kernel_rfl
@[go_sem] theorem f17_rs : Tryz.f17.results.toList = [.tmp 2] := by kernel_rfl
@[go_sem] theorem f17_nt : Tryz.f17.ntmps = 46 := by kernel_rfl
@[go_sem] theorem f22_en : entersB Tryz.prog 22 = true := by kernel_rfl
@[go_sem] theorem f22_rs : Tryz.f22.results.toList = [.tmp 4] := by kernel_rfl
@[go_sem] theorem f22_nt : Tryz.f22.ntmps = 9 := by kernel_rfl
@[go_sem] theorem f31_en : entersB Tryz.prog 31 = true := by kernel_rfl
@[go_sem] theorem f32_rs : Tryz.f32.results.toList = [.tmp 3] := by kernel_rfl
@[go_sem] theorem f32_nt : Tryz.f32.ntmps = 24 := by kernel_rfl
@[go_sem] theorem f33_en : entersB Tryz.prog 33 = true := by kernel_rfl
@[go_sem] theorem f33_rs : Tryz.f33.results.toList = [.tmp 4] := by kernel_rfl
@[go_sem] theorem f33_nt : Tryz.f33.ntmps = 8 := by kernel_rfl
@[go_sem] theorem f34_en : entersB Tryz.prog 34 = true := by kernel_rfl
@[go_sem] theorem f34_rs : Tryz.f34.results.toList = [.tmp 2, .tmp 3, .tmp 4] := by kernel_rfl
@[go_sem] theorem f34_nt : Tryz.f34.ntmps = 20 := by kernel_rfl
@[go_sem] theorem f35_en : entersB Tryz.prog 35 = true := by kernel_rfl
@[go_sem] theorem f35_rs : Tryz.f35.results.toList = [.tmp 4] := by kernel_rfl
@[go_sem] theorem f35_nt : Tryz.f35.ntmps = 9 := by kernel_rfl
@[go_sem] theorem f36_en : entersB Tryz.prog 36 = true := by kernel_rfl
@[go_sem] theorem f36_rs : Tryz.f36.results.toList = [.tmp 4] := by kernel_rfl
@[go_sem] theorem f36_nt : Tryz.f36.ntmps = 9 := by kernel_rfl
@[go_sem] theorem f37_rs : Tryz.f37.results.toList = [.tmp 4] := by kernel_rfl
@[go_sem] theorem f37_nt : Tryz.f37.ntmps = 10 := by kernel_rfl
@[go_sem] theorem f38_en : entersB Tryz.prog 38 = true := by kernel_rfl
@[go_sem] theorem f38_rs : Tryz.f38.results.toList = [.tmp 4] := by kernel_rfl
@[go_sem] theorem f38_nt : Tryz.f38.ntmps = 19 := by kernel_rfl
@[go_sem] theorem f39_en : entersB Tryz.prog 39 = true := by kernel_rfl
@[go_sem] theorem f39_rs : Tryz.f39.results.toList = [.tmp 2] := by kernel_rfl
@[go_sem] theorem f39_nt : Tryz.f39.ntmps = 12 := by kernel_rfl
@[go_sem] theorem f40_en : entersB Tryz.prog 40 = true := by kernel_rfl
@[go_sem] theorem f41_en : entersB Tryz.prog 41 = true := by kernel_rfl
@[go_sem] theorem f42_en : entersB Tryz.prog 42 = true := by kernel_rfl
@[go_sem] theorem f42_rs : Tryz.f42.results.toList = [.tmp 4] := by kernel_rfl
@[go_sem] theorem f42_nt : Tryz.f42.ntmps = 102 := by kernel_rfl
@[go_sem] theorem f43_en : entersB Tryz.prog 43 = true := by kernel_rfl
@[go_sem] theorem f43_rs : Tryz.f43.results.toList = [.tmp 6] := by kernel_rfl
@[go_sem] theorem f43_nt : Tryz.f43.ntmps = 19 := by kernel_rfl
@[go_sem] theorem f44_en : entersB Tryz.prog 44 = true := by kernel_rfl
@[go_sem] theorem f44_rs : Tryz.f44.results.toList = [.tmp 6] := by kernel_rfl
@[go_sem] theorem f44_nt : Tryz.f44.ntmps = 48 := by kernel_rfl
@[go_sem] theorem f45_en : entersB Tryz.prog 45 = true := by kernel_rfl
@[go_sem] theorem f45_rs : Tryz.f45.results.toList = [.tmp 4] := by kernel_rfl
@[go_sem] theorem f45_nt : Tryz.f45.ntmps = 64 := by kernel_rfl
@[go_sem] theorem f46_en : entersB Tryz.prog 46 = true := by kernel_rfl
@[go_sem] theorem f46_rs : Tryz.f46.results.toList = [.tmp 2] := by kernel_rfl
@[go_sem] theorem f46_nt : Tryz.f46.ntmps = 25 := by kernel_rfl
@[go_sem] theorem f47_en : entersB Tryz.prog 47 = true := by kernel_rfl
@[go_sem] theorem f47_rs : Tryz.f47.results.toList = [.tmp 2, .tmp 3] := by kernel_rfl
@[go_sem] theorem f47_nt : Tryz.f47.ntmps = 37 := by kernel_rfl
@[go_sem] theorem f48_en : entersB Tryz.prog 48 = true := by kernel_rfl
@[go_sem] theorem f48_rs : Tryz.f48.results.toList = [.tmp 4] := by kernel_rfl
@[go_sem] theorem f48_nt : Tryz.f48.ntmps = 84 := by kernel_rfl
@[go_sem] theorem f49_en : entersB Tryz.prog 49 = true := by kernel_rfl
@[go_sem] theorem f49_rs : Tryz.f49.results.toList = [.tmp 4] := by kernel_rfl
@[go_sem] theorem f49_nt : Tryz.f49.ntmps = 11 := by kernel_rfl
@[go_sem] theorem f50_en : entersB Tryz.prog 50 = true := by kernel_rfl
@[go_sem] theorem f50_rs : Tryz.f50.results.toList = [.tmp 4] := by kernel_rfl
@[go_sem] theorem f50_nt : Tryz.f50.ntmps = 19 := by kernel_rfl
@[go_sem] theorem f51_rs : Tryz.f51.results.toList = [.tmp 5] := by kernel_rfl
@[go_sem] theorem f51_nt : Tryz.f51.ntmps = 16 := by kernel_rfl
@[go_sem] theorem f52_en : entersB Tryz.prog 52 = true := by kernel_rfl
@[go_sem] theorem f52_rs : Tryz.f52.results.toList = [.tmp 2] := by kernel_rfl
@[go_sem] theorem f52_nt : Tryz.f52.ntmps = 54 := by kernel_rfl
@[go_sem] theorem f53_en : entersB Tryz.prog 53 = true := by kernel_rfl
@[go_sem] theorem f53_rs : Tryz.f53.results.toList = [.tmp 2] := by kernel_rfl
@[go_sem] theorem f53_nt : Tryz.f53.ntmps = 11 := by kernel_rfl
@[go_sem] theorem f54_rs : Tryz.f54.results.toList = [.tmp 4] := by kernel_rfl
@[go_sem] theorem f54_nt : Tryz.f54.ntmps = 13 := by kernel_rfl
@[go_sem] theorem f55_en : entersB Tryz.prog 55 = true := by kernel_rfl
@[go_sem] theorem f56_en : entersB Tryz.prog 56 = true := by kernel_rfl
@[go_sem] theorem f56_rs : Tryz.f56.results.toList = [.tmp 2] := by kernel_rfl
@[go_sem] theorem f56_nt : Tryz.f56.ntmps = 4 := by kernel_rfl
@[go_sem] theorem f57_en : entersB Tryz.prog 57 = true := by kernel_rfl
@[go_sem] theorem f57_rs : Tryz.f57.results.toList = [.tmp 2] := by kernel_rfl
@[go_sem] theorem f57_nt : Tryz.f57.ntmps = 15 := by kernel_rfl
@[go_sem] theorem f58_en : entersB Tryz.prog 58 = true := by kernel_rfl
@[go_sem] theorem f58_rs : Tryz.f58.results.toList = [.tmp 4] := by kernel_rfl
@[go_sem] theorem f58_nt : Tryz.f58.ntmps = 9 := by kernel_rfl
@[go_sem] theorem f59_en : entersB Tryz.prog 59 = true := by kernel_rfl
@[go_sem] theorem f59_rs : Tryz.f59.results.toList = [.tmp 2] := by kernel_rfl
@[go_sem] theorem f59_nt : Tryz.f59.ntmps = 7 := by kernel_rfl
@[go_sem] theorem f60_en : entersB Tryz.prog 60 = true := by kernel_rfl
@[go_sem] theorem f60_rs : Tryz.f60.results.toList = [.tmp 2, .tmp 3] := by kernel_rfl
@[go_sem] theorem f60_nt : Tryz.f60.ntmps = 15 := by kernel_rfl
@[go_sem] theorem f62_en : entersB Tryz.prog 62 = true := by kernel_rfl
@[go_sem] theorem f62_rs : Tryz.f62.results.toList = [.tmp 4] := by kernel_rfl
@[go_sem] theorem f62_nt : Tryz.f62.ntmps = 19 := by kernel_rfl
@[go_sem] theorem f69_en : entersB Tryz.prog 69 = true := by kernel_rfl
@[go_sem] theorem f69_rs : Tryz.f69.results.toList = [.tmp 2] := by kernel_rfl
@[go_sem] theorem f69_nt : Tryz.f69.ntmps = 15 := by kernel_rfl
@[go_sem] theorem f70_en : entersB Tryz.prog 70 = true := by kernel_rfl
@[go_sem] theorem f70_rs : Tryz.f70.results.toList = [.tmp 2, .tmp 3] := by kernel_rfl
@[go_sem] theorem f70_nt : Tryz.f70.ntmps = 15 := by kernel_rfl
@[go_sem] theorem f80_en : entersB Tryz.prog 80 = true := by kernel_rfl
@[go_sem] theorem f92_rs : Tryz.f92.results.toList = [.tmp 3] := by kernel_rfl
@[go_sem] theorem f92_nt : Tryz.f92.ntmps = 8 := by kernel_rfl
@[go_sem] theorem f93_en : entersB Tryz.prog 93 = true := by kernel_rfl
@[go_sem] theorem f93_rs : Tryz.f93.results.toList = [.tmp 2, .tmp 3, .tmp 4] := by kernel_rfl
@[go_sem] theorem f93_nt : Tryz.f93.ntmps = 56 := by kernel_rfl
@[go_sem] theorem f97_rs : Tryz.f97.results.toList = [.tmp 2] := by kernel_rfl
@[go_sem] theorem f97_nt : Tryz.f97.ntmps = 7 := by kernel_rfl
@[go_sem] theorem f98_rs : Tryz.f98.results.toList = [.tmp 3] := by kernel_rfl
@[go_sem] theorem f98_nt : Tryz.f98.ntmps = 24 := by kernel_rfl
@[go_sem] theorem f99_en : entersB Tryz.prog 99 = true := by kernel_rfl
@[go_sem] theorem f99_rs : Tryz.f99.results.toList = [.tmp 4] := by kernel_rfl
@[go_sem] theorem f99_nt : Tryz.f99.ntmps = 16 := by kernel_rfl
@[go_sem] theorem f100_en : entersB Tryz.prog 100 = true := by kernel_rfl
@[go_sem] theorem f100_rs : Tryz.f100.results.toList = [.tmp 2] := by kernel_rfl
@[go_sem] theorem f100_nt : Tryz.f100.ntmps = 4 := by kernel_rfl
@[go_sem] theorem f101_rs : Tryz.f101.results.toList = [.tmp 4] := by kernel_rfl
@[go_sem] theorem f101_nt : Tryz.f101.ntmps = 17 := by kernel_rfl
@[go_sem] theorem f102_rs : Tryz.f102.results.toList = [.tmp 3] := by kernel_rfl
@[go_sem] theorem f102_nt : Tryz.f102.ntmps = 8 := by kernel_rfl
@[go_sem] theorem f103_en : entersB Tryz.prog 103 = true := by kernel_rfl
@[go_sem] theorem f103_rs : Tryz.f103.results.toList = [.tmp 4] := by kernel_rfl
@[go_sem] theorem f103_nt : Tryz.f103.ntmps = 42 := by kernel_rfl
@[go_sem] theorem f104_rs : Tryz.f104.results.toList = [.tmp 3] := by kernel_rfl
@[go_sem] theorem f104_nt : Tryz.f104.ntmps = 8 := by kernel_rfl
@[go_sem] theorem f105_en : entersB Tryz.prog 105 = true := by kernel_rfl
@[go_sem] theorem f105_rs : Tryz.f105.results.toList = [] := by kernel_rfl
@[go_sem] theorem f105_nt : Tryz.f105.ntmps = 34 := by kernel_rfl
@[go_sem] theorem f106_rs : Tryz.f106.results.toList = [] := by kernel_rfl
@[go_sem] theorem f106_nt : Tryz.f106.ntmps = 9 := by kernel_rfl
@[go_sem] theorem f107_en : entersB Tryz.prog 107 = true := by kernel_rfl
@[go_sem] theorem f107_rs : Tryz.f107.results.toList = [] := by kernel_rfl
@[go_sem] theorem f107_nt : Tryz.f107.ntmps = 11 := by kernel_rfl
@[go_sem] theorem f108_en : entersB Tryz.prog 108 = true := by kernel_rfl
@[go_sem] theorem f108_rs : Tryz.f108.results.toList = [.tmp 2] := by kernel_rfl
@[go_sem] theorem f108_nt : Tryz.f108.ntmps = 61 := by kernel_rfl
@[go_sem] theorem f111_en : entersB Tryz.prog 111 = true := by kernel_rfl
@[go_sem] theorem f111_rs : Tryz.f111.results.toList = [.tmp 6] := by kernel_rfl
@[go_sem] theorem f111_nt : Tryz.f111.ntmps = 15 := by kernel_rfl
@[go_sem] theorem f112_en : entersB Tryz.prog 112 = true := by kernel_rfl
@[go_sem] theorem f112_rs : Tryz.f112.results.toList = [.tmp 4] := by kernel_rfl
@[go_sem] theorem f112_nt : Tryz.f112.ntmps = 18 := by kernel_rfl
@[go_sem] theorem f113_en : entersB Tryz.prog 113 = true := by kernel_rfl
@[go_sem] theorem f113_rs : Tryz.f113.results.toList = [.tmp 4] := by kernel_rfl
@[go_sem] theorem f113_nt : Tryz.f113.ntmps = 8 := by kernel_rfl
@[go_sem] theorem f114_en : entersB Tryz.prog 114 = true := by kernel_rfl
@[go_sem] theorem f114_rs : Tryz.f114.results.toList = [.cell 2 173, .tmp 3, .tmp 4] := by kernel_rfl
@[go_sem] theorem f114_nt : Tryz.f114.ntmps = 52 := by kernel_rfl
@[go_sem] theorem f118_en : entersB Tryz.prog 118 = true := by kernel_rfl
@[go_sem] theorem f118_rs : Tryz.f118.results.toList = [.tmp 2] := by kernel_rfl
@[go_sem] theorem f118_nt : Tryz.f118.ntmps = 12 := by kernel_rfl
@[go_sem] theorem f144_rs : Tryz.f144.results.toList = [.tmp 4] := by kernel_rfl
@[go_sem] theorem f144_nt : Tryz.f144.ntmps = 22 := by kernel_rfl
@[go_sem] theorem f152_en : entersB Tryz.prog 152 = true := by kernel_rfl
@[go_sem] theorem f152_rs : Tryz.f152.results.toList = [.cell 4 214] := by kernel_rfl
@[go_sem] theorem f152_nt : Tryz.f152.ntmps = 127 := by kernel_rfl
@[go_sem] theorem f153_en : entersB Tryz.prog 153 = true := by kernel_rfl
@[go_sem] theorem f153_rs : Tryz.f153.results.toList = [.tmp 2] := by kernel_rfl
@[go_sem] theorem f153_nt : Tryz.f153.ntmps = 7 := by kernel_rfl
@[go_sem] theorem f154_en : entersB Tryz.prog 154 = true := by kernel_rfl
@[go_sem] theorem f154_rs : Tryz.f154.results.toList = [.tmp 2] := by kernel_rfl
@[go_sem] theorem f154_nt : Tryz.f154.ntmps = 18 := by kernel_rfl
@[go_sem] theorem f164_en : entersB Tryz.prog 164 = true := by kernel_rfl
@[go_sem] theorem f164_rs : Tryz.f164.results.toList = [] := by kernel_rfl
@[go_sem] theorem f164_nt : Tryz.f164.ntmps = 134 := by kernel_rfl
@[go_sem] theorem f165_en : entersB Tryz.prog 165 = true := by kernel_rfl
@[go_sem] theorem f165_rs : Tryz.f165.results.toList = [.tmp 2] := by kernel_rfl
@[go_sem] theorem f165_nt : Tryz.f165.ntmps = 8 := by kernel_rfl
@[go_sem] theorem f167_en : entersB Tryz.prog 167 = true := by kernel_rfl
@[go_sem] theorem f167_rs : Tryz.f167.results.toList = [.tmp 4] := by kernel_rfl
@[go_sem] theorem f167_nt : Tryz.f167.ntmps = 8 := by kernel_rfl
@[go_sem] theorem f168_en : entersB Tryz.prog 168 = true := by kernel_rfl
@[go_sem] theorem f168_rs : Tryz.f168.results.toList = [.tmp 4] := by kernel_rfl
@[go_sem] theorem f168_nt : Tryz.f168.ntmps = 143 := by kernel_rfl
@[go_sem] theorem f169_en : entersB Tryz.prog 169 = true := by kernel_rfl
@[go_sem] theorem f169_rs : Tryz.f169.results.toList = [.tmp 2] := by kernel_rfl
@[go_sem] theorem f169_nt : Tryz.f169.ntmps = 94 := by kernel_rfl
@[go_sem] theorem f170_en : entersB Tryz.prog 170 = true := by kernel_rfl
@[go_sem] theorem f170_rs : Tryz.f170.results.toList = [.cell 2 173] := by kernel_rfl
@[go_sem] theorem f170_nt : Tryz.f170.ntmps = 36 := by kernel_rfl
@[go_sem] theorem f171_en : entersB Tryz.prog 171 = true := by kernel_rfl
@[go_sem] theorem f171_rs : Tryz.f171.results.toList = [.tmp 2] := by kernel_rfl
@[go_sem] theorem f171_nt : Tryz.f171.ntmps = 10 := by kernel_rfl
@[go_sem] theorem f172_en : entersB Tryz.prog 172 = true := by kernel_rfl
@[go_sem] theorem f172_rs : Tryz.f172.results.toList = [.cell 2 173] := by kernel_rfl
@[go_sem] theorem f172_nt : Tryz.f172.ntmps = 19 := by kernel_rfl
@[go_sem] theorem f187_en : entersB Tryz.prog 187 = true := by kernel_rfl
@[go_sem] theorem f187_rs : Tryz.f187.results.toList = [.tmp 2] := by kernel_rfl
@[go_sem] theorem f187_nt : Tryz.f187.ntmps = 18 := by kernel_rfl
@[go_sem] theorem f188_en : entersB Tryz.prog 188 = true := by kernel_rfl
@[go_sem] theorem f188_rs : Tryz.f188.results.toList = [.tmp 4] := by kernel_rfl
@[go_sem] theorem f188_nt : Tryz.f188.ntmps = 20 := by kernel_rfl
@[go_sem] theorem f191_en : entersB Tryz.prog 191 = true := by kernel_rfl
@[go_sem] theorem f191_rs : Tryz.f191.results.toList = [.tmp 2] := by kernel_rfl
@[go_sem] theorem f191_nt : Tryz.f191.ntmps = 9 := by kernel_rfl
@[go_sem] theorem f192_en : entersB Tryz.prog 192 = true := by kernel_rfl
@[go_sem] theorem f192_rs : Tryz.f192.results.toList = [.tmp 2] := by kernel_rfl
@[go_sem] theorem f192_nt : Tryz.f192.ntmps = 9 := by kernel_rfl
@[go_sem] theorem f193_en : entersB Tryz.prog 193 = true := by kernel_rfl
@[go_sem] theorem f193_rs : Tryz.f193.results.toList = [.tmp 8] := by kernel_rfl
@[go_sem] theorem f193_nt : Tryz.f193.ntmps = 54 := by kernel_rfl
@[go_sem] theorem f194_rs : Tryz.f194.results.toList = [.tmp 2] := by kernel_rfl
@[go_sem] theorem f194_nt : Tryz.f194.ntmps = 7 := by kernel_rfl
@[go_sem] theorem f206_en : entersB Tryz.prog 206 = true := by kernel_rfl
@[go_sem] theorem f206_rs : Tryz.f206.results.toList = [] := by kernel_rfl
@[go_sem] theorem f206_nt : Tryz.f206.ntmps = 49 := by kernel_rfl
@[go_sem] theorem f216_en : entersB Tryz.prog 216 = true := by kernel_rfl
@[go_sem] theorem f216_rs : Tryz.f216.results.toList = [.tmp 2] := by kernel_rfl
@[go_sem] theorem f216_nt : Tryz.f216.ntmps = 25 := by kernel_rfl
@[go_sem] theorem f217_en : entersB Tryz.prog 217 = true := by kernel_rfl
@[go_sem] theorem f217_rs : Tryz.f217.results.toList = [.tmp 4] := by kernel_rfl
@[go_sem] theorem f217_nt : Tryz.f217.ntmps = 8 := by kernel_rfl
@[go_sem] theorem f221_en : entersB Tryz.prog 221 = true := by kernel_rfl
@[go_sem] theorem f221_rs : Tryz.f221.results.toList = [.cell 6 173] := by kernel_rfl
@[go_sem] theorem f221_nt : Tryz.f221.ntmps = 35 := by kernel_rfl
@[go_sem] theorem f222_rs : Tryz.f222.results.toList = [.cell 1 173] := by kernel_rfl
@[go_sem] theorem f222_nt : Tryz.f222.ntmps = 6 := by kernel_rfl
@[go_sem] theorem f223_en : entersB Tryz.prog 223 = true := by kernel_rfl
@[go_sem] theorem f223_rs : Tryz.f223.results.toList = [.cell 2 173] := by kernel_rfl
@[go_sem] theorem f223_nt : Tryz.f223.ntmps = 89 := by kernel_rfl
@[go_sem] theorem f224_en : entersB Tryz.prog 224 = true := by kernel_rfl
@[go_sem] theorem f224_rs : Tryz.f224.results.toList = [.cell 2 293] := by kernel_rfl
@[go_sem] theorem f224_nt : Tryz.f224.ntmps = 47 := by kernel_rfl
@[go_sem] theorem f225_rs : Tryz.f225.results.toList = [.cell 1 173] := by kernel_rfl
@[go_sem] theorem f225_nt : Tryz.f225.ntmps = 6 := by kernel_rfl
@[go_sem] theorem f240_en : entersB Tryz.prog 240 = true := by kernel_rfl
@[go_sem] theorem f240_rs : Tryz.f240.results.toList = [.tmp 2] := by kernel_rfl
@[go_sem] theorem f240_nt : Tryz.f240.ntmps = 6 := by kernel_rfl
@[go_sem] theorem f246_en : entersB Tryz.prog 246 = true := by kernel_rfl
@[go_sem] theorem f246_rs : Tryz.f246.results.toList = [] := by kernel_rfl
@[go_sem] theorem f246_nt : Tryz.f246.ntmps = 42 := by kernel_rfl
@[go_sem] theorem f247_rs : Tryz.f247.results.toList = [.tmp 2] := by kernel_rfl
@[go_sem] theorem f247_nt : Tryz.f247.ntmps = 7 := by kernel_rfl
@[go_sem] theorem f264_en : entersB Tryz.prog 264 = true := by kernel_rfl
@[go_sem] theorem f264_rs : Tryz.f264.results.toList = [.tmp 4, .tmp 5] := by kernel_rfl
@[go_sem] theorem f264_nt : Tryz.f264.ntmps = 21 := by kernel_rfl
@[go_sem] theorem f265_en : entersB Tryz.prog 265 = true := by kernel_rfl
@[go_sem] theorem f265_rs : Tryz.f265.results.toList = [] := by kernel_rfl
@[go_sem] theorem f265_nt : Tryz.f265.ntmps = 18 := by kernel_rfl
@[go_sem] theorem f266_en : entersB Tryz.prog 266 = true := by kernel_rfl
@[go_sem] theorem f266_rs : Tryz.f266.results.toList = [.cell 2 173] := by kernel_rfl
@[go_sem] theorem f266_nt : Tryz.f266.ntmps = 107 := by kernel_rfl
@[go_sem] theorem f275_en : entersB Tryz.prog 275 = true := by kernel_rfl
@[go_sem] theorem f275_rs : Tryz.f275.results.toList = [.tmp 2] := by kernel_rfl
@[go_sem] theorem f275_nt : Tryz.f275.ntmps = 87 := by kernel_rfl
@[go_sem] theorem f287_en : entersB Tryz.prog 287 = true := by kernel_rfl
@[go_sem] theorem f287_rs : Tryz.f287.results.toList = [.tmp 4, .tmp 5] := by kernel_rfl
@[go_sem] theorem f287_nt : Tryz.f287.ntmps = 38 := by kernel_rfl
@[go_sem] theorem f288_en : entersB Tryz.prog 288 = true := by kernel_rfl
@[go_sem] theorem f288_rs : Tryz.f288.results.toList = [.tmp 4] := by kernel_rfl
@[go_sem] theorem f288_nt : Tryz.f288.ntmps = 20 := by kernel_rfl
@[go_sem] theorem f292_en : entersB Tryz.prog 292 = true := by kernel_rfl
@[go_sem] theorem f292_rs : Tryz.f292.results.toList = [.tmp 4] := by kernel_rfl
@[go_sem] theorem f292_nt : Tryz.f292.ntmps = 20 := by kernel_rfl
@[go_sem] theorem f293_en : entersB Tryz.prog 293 = true := by kernel_rfl
@[go_sem] theorem f293_rs : Tryz.f293.results.toList = [.tmp 2] := by kernel_rfl
@[go_sem] theorem f293_nt : Tryz.f293.ntmps = 26 := by kernel_rfl
@[go_sem] theorem f294_en : entersB Tryz.prog 294 = true := by kernel_rfl
@[go_sem] theorem f295_en : entersB Tryz.prog 295 = true := by kernel_rfl
@[go_sem] theorem f295_rs : Tryz.f295.results.toList = [.tmp 4] := by kernel_rfl
@[go_sem] theorem f295_nt : Tryz.f295.ntmps = 62 := by kernel_rfl
@[go_sem] theorem f296_en : entersB Tryz.prog 296 = true := by kernel_rfl
@[go_sem] theorem f296_rs : Tryz.f296.results.toList = [.tmp 4] := by kernel_rfl
@[go_sem] theorem f296_nt : Tryz.f296.ntmps = 44 := by kernel_rfl
@[go_sem] theorem f304_en : entersB Tryz.prog 304 = true := by kernel_rfl
@[go_sem] theorem f304_rs : Tryz.f304.results.toList = [.tmp 4] := by kernel_rfl
@[go_sem] theorem f304_nt : Tryz.f304.ntmps = 18 := by kernel_rfl
@[go_sem] theorem f305_en : entersB Tryz.prog 305 = true := by kernel_rfl
@[go_sem] theorem f305_rs : Tryz.f305.results.toList = [.tmp 4] := by kernel_rfl
@[go_sem] theorem f305_nt : Tryz.f305.ntmps = 8 := by kernel_rfl
@[go_sem] theorem f308_en : entersB Tryz.prog 308 = true := by kernel_rfl
@[go_sem] theorem f308_rs : Tryz.f308.results.toList = [] := by kernel_rfl
@[go_sem] theorem f308_nt : Tryz.f308.ntmps = 19 := by kernel_rfl
@[go_sem] theorem f309_en : entersB Tryz.prog 309 = true := by kernel_rfl
@[go_sem] theorem f309_rs : Tryz.f309.results.toList = [.tmp 4] := by kernel_rfl
@[go_sem] theorem f309_nt : Tryz.f309.ntmps = 13 := by kernel_rfl
@[go_sem] theorem f262_en : entersB Tryz.prog 262 = false := by kernel_rfl
end Go.Proofs.YtagoolooikpabaaGreatDoor
