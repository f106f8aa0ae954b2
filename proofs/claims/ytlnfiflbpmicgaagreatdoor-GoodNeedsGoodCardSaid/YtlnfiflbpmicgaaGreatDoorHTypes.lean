/- Facts on the types. No condition. -/
import Derived.Test.YtlnfiflbpmicgaaGreatDoorProg
import Derived.KernelRfl
import Derived.Test.YtlnfiflbpmicgaaGreatDoorHCoreC
namespace Go.Proofs.YtlnfiflbpmicgaaGreatDoor
open Go Go.RowKit
@[go_sem] theorem t3_ag : aggT Tryz.prog 3 = false := by kernel_rfl
@[go_sem] theorem t3_sz : szT Tryz.prog 3 = 1 := by kernel_rfl
@[go_sem] theorem t3_in : (Tryz.prog.info? 3).isSome = true := by kernel_rfl
@[go_sem] theorem t3_un : (Tryz.prog.underlying 3).isSome = true := by kernel_rfl
@[go_sem] theorem t3_ze : zeroT Tryz.prog 3 = some [.int .i64 0] := by kernel_rfl
@[go_sem] theorem t4_sz : szT Tryz.prog 4 = 1 := by kernel_rfl
@[go_sem] theorem t4_in : (Tryz.prog.info? 4).isSome = true := by kernel_rfl
@[go_sem] theorem t5_un : (Tryz.prog.underlying 5).isSome = true := by kernel_rfl
@[go_sem] theorem t9_ag : aggT Tryz.prog 9 = false := by kernel_rfl
@[go_sem] theorem t9_sz : szT Tryz.prog 9 = 1 := by kernel_rfl
@[go_sem] theorem t9_in : (Tryz.prog.info? 9).isSome = true := by kernel_rfl
@[go_sem] theorem t9_ze : zeroT Tryz.prog 9 = some [.str ⟨#[]⟩] := by kernel_rfl
@[go_sem] theorem t22_ag : aggT Tryz.prog 22 = false := by kernel_rfl
@[go_sem] theorem t22_sz : szT Tryz.prog 22 = 1 := by kernel_rfl
@[go_sem] theorem t22_in : (Tryz.prog.info? 22).isSome = true := by kernel_rfl
@[go_sem] theorem t22_un : (Tryz.prog.underlying 22).isSome = true := by kernel_rfl
@[go_sem] theorem t23_ag : aggT Tryz.prog 23 = false := by kernel_rfl
@[go_sem] theorem t23_sz : szT Tryz.prog 23 = 1 := by kernel_rfl
@[go_sem] theorem t23_in : (Tryz.prog.info? 23).isSome = true := by kernel_rfl
@[go_sem] theorem t23_un : (Tryz.prog.underlying 23).isSome = true := by kernel_rfl
@[go_sem] theorem t25_ze : zeroT Tryz.prog 25 = some [.sl none 0, .int .i64 0] := by kernel_rfl
@[go_sem] theorem t25_fo : fieldsOk Tryz.prog 25 = true := by kernel_rfl
@[go_sem] theorem t27_ag : aggT Tryz.prog 27 = false := by kernel_rfl
@[go_sem] theorem t27_sz : szT Tryz.prog 27 = 1 := by kernel_rfl
@[go_sem] theorem t27_in : (Tryz.prog.info? 27).isSome = true := by kernel_rfl
@[go_sem] theorem t27_un : (Tryz.prog.underlying 27).isSome = true := by kernel_rfl
@[go_sem] theorem t34_ag : aggT Tryz.prog 34 = true := by kernel_rfl
@[go_sem] theorem t34_sz : szT Tryz.prog 34 = 3 := by kernel_rfl
@[go_sem] theorem t34_in : (Tryz.prog.info? 34).isSome = true := by kernel_rfl
@[go_sem] theorem t34_un : (Tryz.prog.underlying 34).isSome = true := by kernel_rfl
@[go_sem] theorem t34_ze : zeroT Tryz.prog 34 = some [.int .i64 0, .int .i64 0, .int .i64 0] := by kernel_rfl
@[go_sem] theorem t34_fo : fieldsOk Tryz.prog 34 = true := by kernel_rfl
@[go_sem] theorem t57_ag : aggT Tryz.prog 57 = false := by kernel_rfl
@[go_sem] theorem t57_sz : szT Tryz.prog 57 = 1 := by kernel_rfl
@[go_sem] theorem t57_in : (Tryz.prog.info? 57).isSome = true := by kernel_rfl
@[go_sem] theorem t57_un : (Tryz.prog.underlying 57).isSome = true := by kernel_rfl
@[go_sem] theorem t57_ze : zeroT Tryz.prog 57 = some [.sl none 0] := by kernel_rfl
@[go_sem] theorem t89_ag : aggT Tryz.prog 89 = false := by kernel_rfl
@[go_sem] theorem t89_sz : szT Tryz.prog 89 = 1 := by kernel_rfl
@[go_sem] theorem t89_in : (Tryz.prog.info? 89).isSome = true := by kernel_rfl
@[go_sem] theorem t89_un : (Tryz.prog.underlying 89).isSome = true := by kernel_rfl
@[go_sem] theorem t92_ag : aggT Tryz.prog 92 = true := by kernel_rfl
@[go_sem] theorem t92_sz : szT Tryz.prog 92 = 2 := by kernel_rfl
@[go_sem] theorem t92_in : (Tryz.prog.info? 92).isSome = true := by kernel_rfl
@[go_sem] theorem t92_un : (Tryz.prog.underlying 92).isSome = true := by kernel_rfl
@[go_sem] theorem t92_ze : zeroT Tryz.prog 92 = some [.str ⟨#[]⟩, .sl none 0] := by kernel_rfl
@[go_sem] theorem t92_fo : fieldsOk Tryz.prog 92 = true := by kernel_rfl
@[go_sem] theorem t94_ag : aggT Tryz.prog 94 = false := by kernel_rfl
@[go_sem] theorem t94_sz : szT Tryz.prog 94 = 1 := by kernel_rfl
@[go_sem] theorem t94_in : (Tryz.prog.info? 94).isSome = true := by kernel_rfl
@[go_sem] theorem t94_un : (Tryz.prog.underlying 94).isSome = true := by kernel_rfl
@[go_sem] theorem t94_ze : zeroT Tryz.prog 94 = some [.ptr none] := by kernel_rfl
@[go_sem] theorem t98_ag : aggT Tryz.prog 98 = true := by kernel_rfl
@[go_sem] theorem t98_sz : szT Tryz.prog 98 = 2 := by kernel_rfl
@[go_sem] theorem t98_in : (Tryz.prog.info? 98).isSome = true := by kernel_rfl
@[go_sem] theorem t98_un : (Tryz.prog.underlying 98).isSome = true := by kernel_rfl
@[go_sem] theorem t98_ze : zeroT Tryz.prog 98 = some [.int .i64 0, .int .i64 0] := by kernel_rfl
@[go_sem] theorem t98_fo : fieldsOk Tryz.prog 98 = true := by kernel_rfl
@[go_sem] theorem t100_ag : aggT Tryz.prog 100 = false := by kernel_rfl
@[go_sem] theorem t100_sz : szT Tryz.prog 100 = 1 := by kernel_rfl
@[go_sem] theorem t100_in : (Tryz.prog.info? 100).isSome = true := by kernel_rfl
@[go_sem] theorem t100_un : (Tryz.prog.underlying 100).isSome = true := by kernel_rfl
@[go_sem] theorem t194_ag : aggT Tryz.prog 194 = true := by kernel_rfl
@[go_sem] theorem t194_sz : szT Tryz.prog 194 = 3 := by kernel_rfl
@[go_sem] theorem t194_in : (Tryz.prog.info? 194).isSome = true := by kernel_rfl
@[go_sem] theorem t194_un : (Tryz.prog.underlying 194).isSome = true := by kernel_rfl
@[go_sem] theorem t194_ze : zeroT Tryz.prog 194 = some [.int .i64 0, .int .i64 0, .str ⟨#[]⟩] := by kernel_rfl
@[go_sem] theorem t194_fo : fieldsOk Tryz.prog 194 = true := by kernel_rfl
@[go_sem] theorem t196_ze : zeroT Tryz.prog 196 = some [.str ⟨#[]⟩, .int .i64 0, .int .i64 0, .str ⟨#[]⟩, .int .i64 0, .int .i64 0, .int .i64 0] := by kernel_rfl
@[go_sem] theorem t196_fo : fieldsOk Tryz.prog 196 = true := by kernel_rfl
@[go_sem] theorem t199_ag : aggT Tryz.prog 199 = false := by kernel_rfl
@[go_sem] theorem t199_sz : szT Tryz.prog 199 = 1 := by kernel_rfl
@[go_sem] theorem t199_in : (Tryz.prog.info? 199).isSome = true := by kernel_rfl
@[go_sem] theorem t199_un : (Tryz.prog.underlying 199).isSome = true := by kernel_rfl
@[go_sem] theorem t201_ze : zeroT Tryz.prog 201 = some [.str ⟨#[]⟩, .int .i64 0, .str ⟨#[]⟩, .sl none 0, .bool false] := by kernel_rfl
@[go_sem] theorem t201_fo : fieldsOk Tryz.prog 201 = true := by kernel_rfl
@[go_sem] theorem t273_un : (Tryz.prog.underlying 273).isSome = true := by kernel_rfl
@[go_sem] theorem t25_f0 : fieldT Tryz.prog 25 0 = some (0, 1) := by kernel_rfl
@[go_sem] theorem t25_f1 : fieldT Tryz.prog 25 1 = some (1, 1) := by kernel_rfl
@[go_sem] theorem t34_f0 : fieldT Tryz.prog 34 0 = some (0, 1) := by kernel_rfl
@[go_sem] theorem t34_f1 : fieldT Tryz.prog 34 1 = some (1, 1) := by kernel_rfl
@[go_sem] theorem t34_f2 : fieldT Tryz.prog 34 2 = some (2, 1) := by kernel_rfl
@[go_sem] theorem t92_f0 : fieldT Tryz.prog 92 0 = some (0, 1) := by kernel_rfl
@[go_sem] theorem t92_f1 : fieldT Tryz.prog 92 1 = some (1, 1) := by kernel_rfl
@[go_sem] theorem t98_f0 : fieldT Tryz.prog 98 0 = some (0, 1) := by kernel_rfl
@[go_sem] theorem t98_f1 : fieldT Tryz.prog 98 1 = some (1, 1) := by kernel_rfl
@[go_sem] theorem t194_f0 : fieldT Tryz.prog 194 0 = some (0, 1) := by kernel_rfl
@[go_sem] theorem t194_f1 : fieldT Tryz.prog 194 1 = some (1, 1) := by kernel_rfl
@[go_sem] theorem t194_f2 : fieldT Tryz.prog 194 2 = some (2, 1) := by kernel_rfl
@[go_sem] theorem t196_f0 : fieldT Tryz.prog 196 0 = some (0, 1) := by kernel_rfl
@[go_sem] theorem t196_f1 : fieldT Tryz.prog 196 1 = some (1, 3) := by kernel_rfl
@[go_sem] theorem t196_f2 : fieldT Tryz.prog 196 2 = some (4, 1) := by kernel_rfl
@[go_sem] theorem t196_f3 : fieldT Tryz.prog 196 3 = some (5, 1) := by kernel_rfl
@[go_sem] theorem t196_f4 : fieldT Tryz.prog 196 4 = some (6, 1) := by kernel_rfl
@[go_sem] theorem t201_f0 : fieldT Tryz.prog 201 0 = some (0, 1) := by kernel_rfl
@[go_sem] theorem t201_f1 : fieldT Tryz.prog 201 1 = some (1, 1) := by kernel_rfl
@[go_sem] theorem t201_f2 : fieldT Tryz.prog 201 2 = some (2, 1) := by kernel_rfl
@[go_sem] theorem t201_f3 : fieldT Tryz.prog 201 3 = some (3, 1) := by kernel_rfl
@[go_sem] theorem t201_f4 : fieldT Tryz.prog 201 4 = some (4, 1) := by kernel_rfl
@[go_sem] theorem t9_st : strT Tryz.prog 9 = true := by kernel_rfl
@[go_sem] theorem t9_el : elemT Tryz.prog 9 = none := by kernel_rfl
@[go_sem] theorem t9_us : Tryz.prog.underlying 9 = some .string := by kernel_rfl
@[go_sem] theorem t22_el : elemT Tryz.prog 22 = some 3 := by kernel_rfl
@[go_sem] theorem t27_el : elemT Tryz.prog 27 = some 92 := by kernel_rfl
@[go_sem] theorem t57_el : elemT Tryz.prog 57 = some 9 := by kernel_rfl
@[go_sem] theorem t57_st : strT Tryz.prog 57 = false := by kernel_rfl
@[go_sem] theorem t89_el : elemT Tryz.prog 89 = some 34 := by kernel_rfl
@[go_sem] theorem t199_el : elemT Tryz.prog 199 = some 94 := by kernel_rfl
@[go_sem] theorem t3_ik : intK Tryz.prog 3 = some .i64 := by kernel_rfl
@[go_sem] theorem t5_ik : intK Tryz.prog 5 = some .u8 := by kernel_rfl
@[go_sem] theorem t180_un : (Tryz.prog.underlying 180).isSome = true := by kernel_rfl
@[go_sem] theorem t180_ik : intK Tryz.prog 180 = some .u64 := by kernel_rfl
@[go_sem] theorem t3_bt : bytesT Tryz.prog 3 = false := by kernel_rfl
@[go_sem] theorem t5_bt : bytesT Tryz.prog 5 = false := by kernel_rfl
@[go_sem] theorem t180_bt : bytesT Tryz.prog 180 = false := by kernel_rfl
@[go_sem] theorem t273_bt : bytesT Tryz.prog 273 = false := by kernel_rfl
@[go_sem] theorem t98_k1 : fieldK Tryz.prog 98 1 = some (1, 1, false) := by kernel_rfl
@[go_sem] theorem f4_rs : Tryz.f4.results.toList = [.tmp 2] := by kernel_rfl
@[go_sem] theorem f4_nt : Tryz.f4.ntmps = 88 := by kernel_rfl
@[go_sem] theorem f9_en : entersB Tryz.prog 9 = true := by kernel_rfl
@[go_sem] theorem f9_rs : Tryz.f9.results.toList = [.tmp 2] := by kernel_rfl
@[go_sem] theorem f9_nt : Tryz.f9.ntmps = 54 := by kernel_rfl
@[go_sem] theorem f12_en : entersB Tryz.prog 12 = true := by kernel_rfl
@[go_sem] theorem f12_rs : Tryz.f12.results.toList = [.cell 6 34, .tmp 7] := by kernel_rfl
@[go_sem] theorem f12_nt : Tryz.f12.ntmps = 39 := by kernel_rfl
@[go_sem] theorem f25_en : entersB Tryz.prog 25 = true := by kernel_rfl
@[go_sem] theorem f25_rs : Tryz.f25.results.toList = [.tmp 4] := by kernel_rfl
@[go_sem] theorem f25_nt : Tryz.f25.ntmps = 102 := by kernel_rfl
@[go_sem] theorem f26_en : entersB Tryz.prog 26 = true := by kernel_rfl
@[go_sem] theorem f26_rs : Tryz.f26.results.toList = [.tmp 6] := by kernel_rfl
@[go_sem] theorem f26_nt : Tryz.f26.ntmps = 19 := by kernel_rfl
@[go_sem] theorem f27_en : entersB Tryz.prog 27 = true := by kernel_rfl
@[go_sem] theorem f27_rs : Tryz.f27.results.toList = [.tmp 4] := by kernel_rfl
@[go_sem] theorem f27_nt : Tryz.f27.ntmps = 9 := by kernel_rfl
@[go_sem] theorem f28_en : entersB Tryz.prog 28 = true := by kernel_rfl
@[go_sem] theorem f29_en : entersB Tryz.prog 29 = true := by kernel_rfl
@[go_sem] theorem f29_rs : Tryz.f29.results.toList = [.tmp 2, .tmp 3, .tmp 4] := by kernel_rfl
@[go_sem] theorem f29_nt : Tryz.f29.ntmps = 20 := by kernel_rfl
@[go_sem] theorem f31_en : entersB Tryz.prog 31 = true := by kernel_rfl
@[go_sem] theorem f31_rs : Tryz.f31.results.toList = [.tmp 4] := by kernel_rfl
@[go_sem] theorem f31_nt : Tryz.f31.ntmps = 12 := by kernel_rfl
@[go_sem] theorem f42_en : entersB Tryz.prog 42 = true := by kernel_rfl
@[go_sem] theorem f42_rs : Tryz.f42.results.toList = [.tmp 4] := by kernel_rfl
@[go_sem] theorem f42_nt : Tryz.f42.ntmps = 9 := by kernel_rfl
@[go_sem] theorem f44_en : entersB Tryz.prog 44 = true := by kernel_rfl
@[go_sem] theorem f44_rs : Tryz.f44.results.toList = [.tmp 4] := by kernel_rfl
@[go_sem] theorem f44_nt : Tryz.f44.ntmps = 12 := by kernel_rfl
@[go_sem] theorem f57_en : entersB Tryz.prog 57 = true := by kernel_rfl
@[go_sem] theorem f57_rs : Tryz.f57.results.toList = [.tmp 4] := by kernel_rfl
@[go_sem] theorem f57_nt : Tryz.f57.ntmps = 39 := by kernel_rfl
@[go_sem] theorem f58_en : entersB Tryz.prog 58 = true := by kernel_rfl
@[go_sem] theorem f58_rs : Tryz.f58.results.toList = [.tmp 4] := by kernel_rfl
@[go_sem] theorem f58_nt : Tryz.f58.ntmps = 64 := by kernel_rfl
@[go_sem] theorem f59_en : entersB Tryz.prog 59 = true := by kernel_rfl
@[go_sem] theorem f59_rs : Tryz.f59.results.toList = [.tmp 4] := by kernel_rfl
@[go_sem] theorem f59_nt : Tryz.f59.ntmps = 25 := by kernel_rfl
@[go_sem] theorem f60_en : entersB Tryz.prog 60 = true := by kernel_rfl
@[go_sem] theorem f60_rs : Tryz.f60.results.toList = [.tmp 2, .tmp 3, .tmp 4] := by kernel_rfl
@[go_sem] theorem f60_nt : Tryz.f60.ntmps = 56 := by kernel_rfl
@[go_sem] theorem f61_en : entersB Tryz.prog 61 = true := by kernel_rfl
@[go_sem] theorem f61_rs : Tryz.f61.results.toList = [.tmp 2] := by kernel_rfl
@[go_sem] theorem f61_nt : Tryz.f61.ntmps = 42 := by kernel_rfl
@[go_sem] theorem f62_en : entersB Tryz.prog 62 = true := by kernel_rfl
@[go_sem] theorem f62_rs : Tryz.f62.results.toList = [.tmp 2] := by kernel_rfl
@[go_sem] theorem f62_nt : Tryz.f62.ntmps = 6 := by kernel_rfl
@[go_sem] theorem f63_en : entersB Tryz.prog 63 = true := by kernel_rfl
@[go_sem] theorem f63_rs : Tryz.f63.results.toList = [.cell 6 98] := by kernel_rfl
@[go_sem] theorem f63_nt : Tryz.f63.ntmps = 107 := by kernel_rfl
@[go_sem] theorem f64_en : entersB Tryz.prog 64 = true := by kernel_rfl
@[go_sem] theorem f64_rs : Tryz.f64.results.toList = [.tmp 2] := by kernel_rfl
@[go_sem] theorem f64_nt : Tryz.f64.ntmps = 4 := by kernel_rfl
@[go_sem] theorem f65_en : entersB Tryz.prog 65 = true := by kernel_rfl
@[go_sem] theorem f65_rs : Tryz.f65.results.toList = [.cell 4 34] := by kernel_rfl
@[go_sem] theorem f65_nt : Tryz.f65.ntmps = 16 := by kernel_rfl
@[go_sem] theorem f67_en : entersB Tryz.prog 67 = true := by kernel_rfl
@[go_sem] theorem f67_rs : Tryz.f67.results.toList = [.cell 0 98] := by kernel_rfl
@[go_sem] theorem f67_nt : Tryz.f67.ntmps = 2 := by kernel_rfl
@[go_sem] theorem f68_en : entersB Tryz.prog 68 = true := by kernel_rfl
@[go_sem] theorem f68_rs : Tryz.f68.results.toList = [.tmp 2] := by kernel_rfl
@[go_sem] theorem f68_nt : Tryz.f68.ntmps = 11 := by kernel_rfl
@[go_sem] theorem f71_en : entersB Tryz.prog 71 = true := by kernel_rfl
@[go_sem] theorem f71_rs : Tryz.f71.results.toList = [] := by kernel_rfl
@[go_sem] theorem f71_nt : Tryz.f71.ntmps = 34 := by kernel_rfl
@[go_sem] theorem f73_en : entersB Tryz.prog 73 = true := by kernel_rfl
@[go_sem] theorem f73_rs : Tryz.f73.results.toList = [.tmp 4] := by kernel_rfl
@[go_sem] theorem f73_nt : Tryz.f73.ntmps = 20 := by kernel_rfl
@[go_sem] theorem f89_rs : Tryz.f89.results.toList = [.tmp 2] := by kernel_rfl
@[go_sem] theorem f89_nt : Tryz.f89.ntmps = 7 := by kernel_rfl
@[go_sem] theorem f90_en : entersB Tryz.prog 90 = true := by kernel_rfl
@[go_sem] theorem f90_rs : Tryz.f90.results.toList = [.tmp 4] := by kernel_rfl
@[go_sem] theorem f90_nt : Tryz.f90.ntmps = 8 := by kernel_rfl
@[go_sem] theorem f106_en : entersB Tryz.prog 106 = true := by kernel_rfl
@[go_sem] theorem f106_rs : Tryz.f106.results.toList = [.tmp 2] := by kernel_rfl
@[go_sem] theorem f106_nt : Tryz.f106.ntmps = 54 := by kernel_rfl
@[go_sem] theorem f135_en : entersB Tryz.prog 135 = true := by kernel_rfl
@[go_sem] theorem f135_rs : Tryz.f135.results.toList = [.tmp 4] := by kernel_rfl
@[go_sem] theorem f135_nt : Tryz.f135.ntmps = 16 := by kernel_rfl
@[go_sem] theorem f136_en : entersB Tryz.prog 136 = true := by kernel_rfl
@[go_sem] theorem f136_rs : Tryz.f136.results.toList = [.cell 2 34] := by kernel_rfl
@[go_sem] theorem f136_nt : Tryz.f136.ntmps = 13 := by kernel_rfl
@[go_sem] theorem f137_en : entersB Tryz.prog 137 = true := by kernel_rfl
@[go_sem] theorem f137_rs : Tryz.f137.results.toList = [.cell 4 194] := by kernel_rfl
@[go_sem] theorem f137_nt : Tryz.f137.ntmps = 127 := by kernel_rfl
@[go_sem] theorem f138_en : entersB Tryz.prog 138 = true := by kernel_rfl
@[go_sem] theorem f138_rs : Tryz.f138.results.toList = [.tmp 2] := by kernel_rfl
@[go_sem] theorem f138_nt : Tryz.f138.ntmps = 7 := by kernel_rfl
@[go_sem] theorem f139_en : entersB Tryz.prog 139 = true := by kernel_rfl
@[go_sem] theorem f139_rs : Tryz.f139.results.toList = [.tmp 2] := by kernel_rfl
@[go_sem] theorem f139_nt : Tryz.f139.ntmps = 18 := by kernel_rfl
@[go_sem] theorem f140_en : entersB Tryz.prog 140 = true := by kernel_rfl
@[go_sem] theorem f140_rs : Tryz.f140.results.toList = [.tmp 2] := by kernel_rfl
@[go_sem] theorem f140_nt : Tryz.f140.ntmps = 35 := by kernel_rfl
@[go_sem] theorem f141_en : entersB Tryz.prog 141 = true := by kernel_rfl
@[go_sem] theorem f141_rs : Tryz.f141.results.toList = [.tmp 6] := by kernel_rfl
@[go_sem] theorem f141_nt : Tryz.f141.ntmps = 15 := by kernel_rfl
@[go_sem] theorem f142_en : entersB Tryz.prog 142 = true := by kernel_rfl
@[go_sem] theorem f142_rs : Tryz.f142.results.toList = [.cell 5 98] := by kernel_rfl
@[go_sem] theorem f142_nt : Tryz.f142.ntmps = 16 := by kernel_rfl
@[go_sem] theorem f143_en : entersB Tryz.prog 143 = true := by kernel_rfl
@[go_sem] theorem f143_rs : Tryz.f143.results.toList = [.cell 6 98] := by kernel_rfl
@[go_sem] theorem f143_nt : Tryz.f143.ntmps = 20 := by kernel_rfl
@[go_sem] theorem f144_en : entersB Tryz.prog 144 = true := by kernel_rfl
@[go_sem] theorem f144_rs : Tryz.f144.results.toList = [.cell 4 98] := by kernel_rfl
@[go_sem] theorem f144_nt : Tryz.f144.ntmps = 10 := by kernel_rfl
@[go_sem] theorem f145_en : entersB Tryz.prog 145 = true := by kernel_rfl
@[go_sem] theorem f145_rs : Tryz.f145.results.toList = [.cell 6 98] := by kernel_rfl
@[go_sem] theorem f145_nt : Tryz.f145.ntmps = 88 := by kernel_rfl
@[go_sem] theorem f146_rs : Tryz.f146.results.toList = [.cell 5 98] := by kernel_rfl
@[go_sem] theorem f146_nt : Tryz.f146.ntmps = 36 := by kernel_rfl
@[go_sem] theorem f147_en : entersB Tryz.prog 147 = true := by kernel_rfl
@[go_sem] theorem f147_rs : Tryz.f147.results.toList = [.tmp 6, .tmp 7] := by kernel_rfl
@[go_sem] theorem f147_nt : Tryz.f147.ntmps = 49 := by kernel_rfl
@[go_sem] theorem f148_rs : Tryz.f148.results.toList = [.tmp 4] := by kernel_rfl
@[go_sem] theorem f148_nt : Tryz.f148.ntmps = 9 := by kernel_rfl
@[go_sem] theorem f149_rs : Tryz.f149.results.toList = [] := by kernel_rfl
@[go_sem] theorem f149_nt : Tryz.f149.ntmps = 9 := by kernel_rfl
@[go_sem] theorem f150_en : entersB Tryz.prog 150 = true := by kernel_rfl
@[go_sem] theorem f150_rs : Tryz.f150.results.toList = [] := by kernel_rfl
@[go_sem] theorem f150_nt : Tryz.f150.ntmps = 11 := by kernel_rfl
@[go_sem] theorem f151_en : entersB Tryz.prog 151 = true := by kernel_rfl
@[go_sem] theorem f151_rs : Tryz.f151.results.toList = [.tmp 2] := by kernel_rfl
@[go_sem] theorem f151_nt : Tryz.f151.ntmps = 61 := by kernel_rfl
@[go_sem] theorem f153_en : entersB Tryz.prog 153 = true := by kernel_rfl
@[go_sem] theorem f153_rs : Tryz.f153.results.toList = [.tmp 6, .tmp 7] := by kernel_rfl
@[go_sem] theorem f153_nt : Tryz.f153.ntmps = 49 := by kernel_rfl
@[go_sem] theorem f154_rs : Tryz.f154.results.toList = [.tmp 4] := by kernel_rfl
@[go_sem] theorem f154_nt : Tryz.f154.ntmps = 9 := by kernel_rfl
@[go_sem] theorem f155_en : entersB Tryz.prog 155 = true := by kernel_rfl
@[go_sem] theorem f155_rs : Tryz.f155.results.toList = [.tmp 4] := by kernel_rfl
@[go_sem] theorem f155_nt : Tryz.f155.ntmps = 8 := by kernel_rfl
@[go_sem] theorem f157_en : entersB Tryz.prog 157 = true := by kernel_rfl
@[go_sem] theorem f157_rs : Tryz.f157.results.toList = [.tmp 2] := by kernel_rfl
@[go_sem] theorem f157_nt : Tryz.f157.ntmps = 8 := by kernel_rfl
@[go_sem] theorem f170_en : entersB Tryz.prog 170 = true := by kernel_rfl
@[go_sem] theorem f170_rs : Tryz.f170.results.toList = [.tmp 4] := by kernel_rfl
@[go_sem] theorem f170_nt : Tryz.f170.ntmps = 143 := by kernel_rfl
@[go_sem] theorem f173_rs : Tryz.f173.results.toList = [.tmp 4] := by kernel_rfl
@[go_sem] theorem f173_nt : Tryz.f173.ntmps = 22 := by kernel_rfl
@[go_sem] theorem f194_en : entersB Tryz.prog 194 = true := by kernel_rfl
@[go_sem] theorem f194_rs : Tryz.f194.results.toList = [.tmp 2] := by kernel_rfl
@[go_sem] theorem f194_nt : Tryz.f194.ntmps = 12 := by kernel_rfl
@[go_sem] theorem f206_en : entersB Tryz.prog 206 = true := by kernel_rfl
@[go_sem] theorem f206_rs : Tryz.f206.results.toList = [.tmp 2] := by kernel_rfl
@[go_sem] theorem f206_nt : Tryz.f206.ntmps = 9 := by kernel_rfl
@[go_sem] theorem f207_en : entersB Tryz.prog 207 = true := by kernel_rfl
@[go_sem] theorem f207_rs : Tryz.f207.results.toList = [.tmp 2] := by kernel_rfl
@[go_sem] theorem f207_nt : Tryz.f207.ntmps = 9 := by kernel_rfl
@[go_sem] theorem f208_en : entersB Tryz.prog 208 = true := by kernel_rfl
@[go_sem] theorem f208_rs : Tryz.f208.results.toList = [.tmp 4] := by kernel_rfl
@[go_sem] theorem f208_nt : Tryz.f208.ntmps = 8 := by kernel_rfl
@[go_sem] theorem f209_en : entersB Tryz.prog 209 = true := by kernel_rfl
@[go_sem] theorem f209_rs : Tryz.f209.results.toList = [.tmp 8] := by kernel_rfl
@[go_sem] theorem f209_nt : Tryz.f209.ntmps = 54 := by kernel_rfl
@[go_sem] theorem f210_rs : Tryz.f210.results.toList = [.tmp 2] := by kernel_rfl
@[go_sem] theorem f210_nt : Tryz.f210.ntmps = 7 := by kernel_rfl
@[go_sem] theorem f211_en : entersB Tryz.prog 211 = true := by kernel_rfl
@[go_sem] theorem f211_rs : Tryz.f211.results.toList = [.tmp 2] := by kernel_rfl
@[go_sem] theorem f211_nt : Tryz.f211.ntmps = 25 := by kernel_rfl
@[go_sem] theorem f212_en : entersB Tryz.prog 212 = true := by kernel_rfl
@[go_sem] theorem f212_rs : Tryz.f212.results.toList = [.tmp 4] := by kernel_rfl
@[go_sem] theorem f212_nt : Tryz.f212.ntmps = 22 := by kernel_rfl
@[go_sem] theorem f213_en : entersB Tryz.prog 213 = true := by kernel_rfl
@[go_sem] theorem f213_rs : Tryz.f213.results.toList = [] := by kernel_rfl
@[go_sem] theorem f213_nt : Tryz.f213.ntmps = 134 := by kernel_rfl
@[go_sem] theorem f214_en : entersB Tryz.prog 214 = true := by kernel_rfl
@[go_sem] theorem f214_rs : Tryz.f214.results.toList = [.tmp 4] := by kernel_rfl
@[go_sem] theorem f214_nt : Tryz.f214.ntmps = 8 := by kernel_rfl
@[go_sem] theorem f225_en : entersB Tryz.prog 225 = true := by kernel_rfl
@[go_sem] theorem f225_rs : Tryz.f225.results.toList = [.tmp 2] := by kernel_rfl
@[go_sem] theorem f225_nt : Tryz.f225.ntmps = 25 := by kernel_rfl
@[go_sem] theorem f231_en : entersB Tryz.prog 231 = true := by kernel_rfl
@[go_sem] theorem f231_rs : Tryz.f231.results.toList = [.tmp 4] := by kernel_rfl
@[go_sem] theorem f231_nt : Tryz.f231.ntmps = 8 := by kernel_rfl
@[go_sem] theorem f237_en : entersB Tryz.prog 237 = true := by kernel_rfl
@[go_sem] theorem f237_rs : Tryz.f237.results.toList = [.tmp 2] := by kernel_rfl
@[go_sem] theorem f237_nt : Tryz.f237.ntmps = 18 := by kernel_rfl
@[go_sem] theorem f238_en : entersB Tryz.prog 238 = true := by kernel_rfl
@[go_sem] theorem f238_rs : Tryz.f238.results.toList = [.tmp 4] := by kernel_rfl
@[go_sem] theorem f238_nt : Tryz.f238.ntmps = 20 := by kernel_rfl
@[go_sem] theorem f252_en : entersB Tryz.prog 252 = true := by kernel_rfl
@[go_sem] theorem f252_rs : Tryz.f252.results.toList = [] := by kernel_rfl
@[go_sem] theorem f252_nt : Tryz.f252.ntmps = 42 := by kernel_rfl
@[go_sem] theorem f253_rs : Tryz.f253.results.toList = [.tmp 2] := by kernel_rfl
@[go_sem] theorem f253_nt : Tryz.f253.ntmps = 7 := by kernel_rfl
@[go_sem] theorem f254_en : entersB Tryz.prog 254 = true := by kernel_rfl
@[go_sem] theorem f254_rs : Tryz.f254.results.toList = [] := by kernel_rfl
@[go_sem] theorem f254_nt : Tryz.f254.ntmps = 49 := by kernel_rfl
@[go_sem] theorem f269_en : entersB Tryz.prog 269 = true := by kernel_rfl
@[go_sem] theorem f269_rs : Tryz.f269.results.toList = [.tmp 2] := by kernel_rfl
@[go_sem] theorem f269_nt : Tryz.f269.ntmps = 6 := by kernel_rfl
@[go_sem] theorem f301_en : entersB Tryz.prog 301 = true := by kernel_rfl
@[go_sem] theorem f301_rs : Tryz.f301.results.toList = [.tmp 2] := by kernel_rfl
@[go_sem] theorem f301_nt : Tryz.f301.ntmps = 87 := by kernel_rfl
@[go_sem] theorem f322_en : entersB Tryz.prog 322 = true := by kernel_rfl
@[go_sem] theorem f322_rs : Tryz.f322.results.toList = [.tmp 4] := by kernel_rfl
@[go_sem] theorem f322_nt : Tryz.f322.ntmps = 20 := by kernel_rfl
@[go_sem] theorem f323_en : entersB Tryz.prog 323 = true := by kernel_rfl
@[go_sem] theorem f323_rs : Tryz.f323.results.toList = [.tmp 2] := by kernel_rfl
@[go_sem] theorem f323_nt : Tryz.f323.ntmps = 26 := by kernel_rfl
@[go_sem] theorem f324_en : entersB Tryz.prog 324 = true := by kernel_rfl
@[go_sem] theorem f325_en : entersB Tryz.prog 325 = true := by kernel_rfl
@[go_sem] theorem f325_rs : Tryz.f325.results.toList = [.tmp 4] := by kernel_rfl
@[go_sem] theorem f325_nt : Tryz.f325.ntmps = 62 := by kernel_rfl
@[go_sem] theorem f326_en : entersB Tryz.prog 326 = true := by kernel_rfl
@[go_sem] theorem f326_rs : Tryz.f326.results.toList = [.tmp 4] := by kernel_rfl
@[go_sem] theorem f326_nt : Tryz.f326.ntmps = 44 := by kernel_rfl
@[go_sem] theorem f343_en : entersB Tryz.prog 343 = true := by kernel_rfl
@[go_sem] theorem f343_rs : Tryz.f343.results.toList = [] := by kernel_rfl
@[go_sem] theorem f343_nt : Tryz.f343.ntmps = 19 := by kernel_rfl
@[go_sem] theorem f263_en : entersB Tryz.prog 263 = false := by kernel_rfl
@[go_sem] theorem f273_en : entersB Tryz.prog 273 = false := by kernel_rfl
end Go.Proofs.YtlnfiflbpmicgaaGreatDoor
