/- Facts on the types. No condition. -/
import Derived.Test.YtgcjenfdndhhpaaGreatRows
import Derived.Test.YtgcjenfdndhhpaaGreatHCoreC
namespace Go.Proofs.YtgcjenfdndhhpaaGreat
open Go Go.RowKit
@[go_sem] theorem t3_ag : aggT Tryz.prog 3 = false := by kernel_rfl
@[go_sem] theorem t3_sz : szT Tryz.prog 3 = 1 := by kernel_rfl
@[go_sem] theorem t3_in : (Tryz.prog.info? 3).isSome = true := by kernel_rfl
@[go_sem] theorem t3_un : (Tryz.prog.underlying 3).isSome = true := by kernel_rfl
@[go_sem] theorem t3_ze : zeroT Tryz.prog 3 = some [.int .i64 0] := by kernel_rfl
@[go_sem] theorem t3_by : Tryz.prog.bytesOf 3 = 8 := by kernel_rfl
@[go_sem] theorem t4_ag : aggT Tryz.prog 4 = false := by kernel_rfl
@[go_sem] theorem t4_sz : szT Tryz.prog 4 = 1 := by kernel_rfl
@[go_sem] theorem t4_in : (Tryz.prog.info? 4).isSome = true := by kernel_rfl
@[go_sem] theorem t4_un : (Tryz.prog.underlying 4).isSome = true := by kernel_rfl
@[go_sem] theorem t4_ze : zeroT Tryz.prog 4 = some [.bool false] := by kernel_rfl
@[go_sem] theorem t4_by : Tryz.prog.bytesOf 4 = 1 := by kernel_rfl
@[go_sem] theorem t5_ag : aggT Tryz.prog 5 = false := by kernel_rfl
@[go_sem] theorem t5_sz : szT Tryz.prog 5 = 1 := by kernel_rfl
@[go_sem] theorem t5_in : (Tryz.prog.info? 5).isSome = true := by kernel_rfl
@[go_sem] theorem t5_un : (Tryz.prog.underlying 5).isSome = true := by kernel_rfl
@[go_sem] theorem t5_ze : zeroT Tryz.prog 5 = some [.int .u8 0] := by kernel_rfl
@[go_sem] theorem t5_by : Tryz.prog.bytesOf 5 = 1 := by kernel_rfl
@[go_sem] theorem t9_ag : aggT Tryz.prog 9 = false := by kernel_rfl
@[go_sem] theorem t9_sz : szT Tryz.prog 9 = 1 := by kernel_rfl
@[go_sem] theorem t9_in : (Tryz.prog.info? 9).isSome = true := by kernel_rfl
@[go_sem] theorem t9_un : (Tryz.prog.underlying 9).isSome = true := by kernel_rfl
@[go_sem] theorem t9_ze : zeroT Tryz.prog 9 = some [.str ⟨#[]⟩] := by kernel_rfl
@[go_sem] theorem t9_by : Tryz.prog.bytesOf 9 = 16 := by kernel_rfl
@[go_sem] theorem t22_ag : aggT Tryz.prog 22 = false := by kernel_rfl
@[go_sem] theorem t22_sz : szT Tryz.prog 22 = 1 := by kernel_rfl
@[go_sem] theorem t22_in : (Tryz.prog.info? 22).isSome = true := by kernel_rfl
@[go_sem] theorem t22_un : (Tryz.prog.underlying 22).isSome = true := by kernel_rfl
@[go_sem] theorem t22_ze : zeroT Tryz.prog 22 = some [.sl none 0] := by kernel_rfl
@[go_sem] theorem t22_by : Tryz.prog.bytesOf 22 = 24 := by kernel_rfl
@[go_sem] theorem t25_ag : aggT Tryz.prog 25 = true := by kernel_rfl
@[go_sem] theorem t25_sz : szT Tryz.prog 25 = 2 := by kernel_rfl
@[go_sem] theorem t25_in : (Tryz.prog.info? 25).isSome = true := by kernel_rfl
@[go_sem] theorem t25_un : (Tryz.prog.underlying 25).isSome = true := by kernel_rfl
@[go_sem] theorem t25_ze : zeroT Tryz.prog 25 = some [.sl none 0, .int .i64 0] := by kernel_rfl
@[go_sem] theorem t25_by : Tryz.prog.bytesOf 25 = 32 := by kernel_rfl
@[go_sem] theorem t25_fo : fieldsOk Tryz.prog 25 = true := by kernel_rfl
@[go_sem] theorem t26_ag : aggT Tryz.prog 26 = false := by kernel_rfl
@[go_sem] theorem t26_sz : szT Tryz.prog 26 = 1 := by kernel_rfl
@[go_sem] theorem t26_in : (Tryz.prog.info? 26).isSome = true := by kernel_rfl
@[go_sem] theorem t26_un : (Tryz.prog.underlying 26).isSome = true := by kernel_rfl
@[go_sem] theorem t26_ze : zeroT Tryz.prog 26 = some [.sl none 0] := by kernel_rfl
@[go_sem] theorem t26_by : Tryz.prog.bytesOf 26 = 24 := by kernel_rfl
@[go_sem] theorem t30_ag : aggT Tryz.prog 30 = false := by kernel_rfl
@[go_sem] theorem t30_sz : szT Tryz.prog 30 = 1 := by kernel_rfl
@[go_sem] theorem t30_in : (Tryz.prog.info? 30).isSome = true := by kernel_rfl
@[go_sem] theorem t30_un : (Tryz.prog.underlying 30).isSome = true := by kernel_rfl
@[go_sem] theorem t30_ze : zeroT Tryz.prog 30 = some [.sl none 0] := by kernel_rfl
@[go_sem] theorem t30_by : Tryz.prog.bytesOf 30 = 24 := by kernel_rfl
@[go_sem] theorem t34_ag : aggT Tryz.prog 34 = false := by kernel_rfl
@[go_sem] theorem t34_sz : szT Tryz.prog 34 = 1 := by kernel_rfl
@[go_sem] theorem t34_in : (Tryz.prog.info? 34).isSome = true := by kernel_rfl
@[go_sem] theorem t34_un : (Tryz.prog.underlying 34).isSome = true := by kernel_rfl
@[go_sem] theorem t34_ze : zeroT Tryz.prog 34 = some [.int .i64 0] := by kernel_rfl
@[go_sem] theorem t34_by : Tryz.prog.bytesOf 34 = 8 := by kernel_rfl
@[go_sem] theorem t45_ag : aggT Tryz.prog 45 = true := by kernel_rfl
@[go_sem] theorem t45_sz : szT Tryz.prog 45 = 2 := by kernel_rfl
@[go_sem] theorem t45_in : (Tryz.prog.info? 45).isSome = true := by kernel_rfl
@[go_sem] theorem t45_un : (Tryz.prog.underlying 45).isSome = true := by kernel_rfl
@[go_sem] theorem t45_ze : zeroT Tryz.prog 45 = some [.int .i64 0, .int .i64 0] := by kernel_rfl
@[go_sem] theorem t45_by : Tryz.prog.bytesOf 45 = 16 := by kernel_rfl
@[go_sem] theorem t45_fo : fieldsOk Tryz.prog 45 = true := by kernel_rfl
@[go_sem] theorem t66_ag : aggT Tryz.prog 66 = true := by kernel_rfl
@[go_sem] theorem t66_sz : szT Tryz.prog 66 = 7 := by kernel_rfl
@[go_sem] theorem t66_in : (Tryz.prog.info? 66).isSome = true := by kernel_rfl
@[go_sem] theorem t66_un : (Tryz.prog.underlying 66).isSome = true := by kernel_rfl
@[go_sem] theorem t66_ze : zeroT Tryz.prog 66 = some [.int .i64 0, .int .i64 0, .str ⟨#[]⟩, .int .i64 0, .int .i64 0, .int .i64 0, .bool false] := by kernel_rfl
@[go_sem] theorem t66_by : Tryz.prog.bytesOf 66 = 64 := by kernel_rfl
@[go_sem] theorem t66_fo : fieldsOk Tryz.prog 66 = true := by kernel_rfl
@[go_sem] theorem t69_ag : aggT Tryz.prog 69 = true := by kernel_rfl
@[go_sem] theorem t69_sz : szT Tryz.prog 69 = 3 := by kernel_rfl
@[go_sem] theorem t69_in : (Tryz.prog.info? 69).isSome = true := by kernel_rfl
@[go_sem] theorem t69_un : (Tryz.prog.underlying 69).isSome = true := by kernel_rfl
@[go_sem] theorem t69_ze : zeroT Tryz.prog 69 = some [.int .i64 0, .int .i64 0, .int .i64 0] := by kernel_rfl
@[go_sem] theorem t69_by : Tryz.prog.bytesOf 69 = 24 := by kernel_rfl
@[go_sem] theorem t69_fo : fieldsOk Tryz.prog 69 = true := by kernel_rfl
@[go_sem] theorem t71_ag : aggT Tryz.prog 71 = false := by kernel_rfl
@[go_sem] theorem t71_sz : szT Tryz.prog 71 = 1 := by kernel_rfl
@[go_sem] theorem t71_in : (Tryz.prog.info? 71).isSome = true := by kernel_rfl
@[go_sem] theorem t71_un : (Tryz.prog.underlying 71).isSome = true := by kernel_rfl
@[go_sem] theorem t71_ze : zeroT Tryz.prog 71 = some [.sl none 0] := by kernel_rfl
@[go_sem] theorem t71_by : Tryz.prog.bytesOf 71 = 24 := by kernel_rfl
@[go_sem] theorem t77_ag : aggT Tryz.prog 77 = true := by kernel_rfl
@[go_sem] theorem t77_sz : szT Tryz.prog 77 = 11 := by kernel_rfl
@[go_sem] theorem t77_in : (Tryz.prog.info? 77).isSome = true := by kernel_rfl
@[go_sem] theorem t77_un : (Tryz.prog.underlying 77).isSome = true := by kernel_rfl
@[go_sem] theorem t77_ze : zeroT Tryz.prog 77 = some [.str ⟨#[]⟩, .int .i64 0, .int .i64 0, .int .i64 0, .int .i64 0, .int .i64 0, .int .i64 0, .int .i64 0, .int .i64 0, .int .i64 0, .int .i64 0] := by kernel_rfl
@[go_sem] theorem t77_by : Tryz.prog.bytesOf 77 = 96 := by kernel_rfl
@[go_sem] theorem t77_fo : fieldsOk Tryz.prog 77 = true := by kernel_rfl
@[go_sem] theorem t96_ag : aggT Tryz.prog 96 = false := by kernel_rfl
@[go_sem] theorem t96_sz : szT Tryz.prog 96 = 1 := by kernel_rfl
@[go_sem] theorem t96_in : (Tryz.prog.info? 96).isSome = true := by kernel_rfl
@[go_sem] theorem t96_un : (Tryz.prog.underlying 96).isSome = true := by kernel_rfl
@[go_sem] theorem t96_ze : zeroT Tryz.prog 96 = some [.sl none 0] := by kernel_rfl
@[go_sem] theorem t96_by : Tryz.prog.bytesOf 96 = 24 := by kernel_rfl
@[go_sem] theorem t97_ag : aggT Tryz.prog 97 = false := by kernel_rfl
@[go_sem] theorem t97_sz : szT Tryz.prog 97 = 1 := by kernel_rfl
@[go_sem] theorem t97_in : (Tryz.prog.info? 97).isSome = true := by kernel_rfl
@[go_sem] theorem t97_un : (Tryz.prog.underlying 97).isSome = true := by kernel_rfl
@[go_sem] theorem t97_ze : zeroT Tryz.prog 97 = some [.map none] := by kernel_rfl
@[go_sem] theorem t97_by : Tryz.prog.bytesOf 97 = 8 := by kernel_rfl
@[go_sem] theorem t99_ag : aggT Tryz.prog 99 = true := by kernel_rfl
@[go_sem] theorem t99_sz : szT Tryz.prog 99 = 4 := by kernel_rfl
@[go_sem] theorem t99_in : (Tryz.prog.info? 99).isSome = true := by kernel_rfl
@[go_sem] theorem t99_un : (Tryz.prog.underlying 99).isSome = true := by kernel_rfl
@[go_sem] theorem t99_ze : zeroT Tryz.prog 99 = some [.sl none 0, .int .i64 0, .sl none 0, .map none] := by kernel_rfl
@[go_sem] theorem t99_by : Tryz.prog.bytesOf 99 = 64 := by kernel_rfl
@[go_sem] theorem t99_fo : fieldsOk Tryz.prog 99 = true := by kernel_rfl
@[go_sem] theorem t108_ag : aggT Tryz.prog 108 = false := by kernel_rfl
@[go_sem] theorem t108_sz : szT Tryz.prog 108 = 1 := by kernel_rfl
@[go_sem] theorem t108_in : (Tryz.prog.info? 108).isSome = true := by kernel_rfl
@[go_sem] theorem t108_un : (Tryz.prog.underlying 108).isSome = true := by kernel_rfl
@[go_sem] theorem t108_ze : zeroT Tryz.prog 108 = some [.sl none 0] := by kernel_rfl
@[go_sem] theorem t108_by : Tryz.prog.bytesOf 108 = 24 := by kernel_rfl
@[go_sem] theorem t115_ag : aggT Tryz.prog 115 = true := by kernel_rfl
@[go_sem] theorem t115_sz : szT Tryz.prog 115 = 8 := by kernel_rfl
@[go_sem] theorem t115_in : (Tryz.prog.info? 115).isSome = true := by kernel_rfl
@[go_sem] theorem t115_un : (Tryz.prog.underlying 115).isSome = true := by kernel_rfl
@[go_sem] theorem t115_ze : zeroT Tryz.prog 115 = some [.int .i64 0, .int .i64 0, .str ⟨#[]⟩, .int .i64 0, .int .i64 0, .int .i64 0, .bool false, .sl none 0] := by kernel_rfl
@[go_sem] theorem t115_by : Tryz.prog.bytesOf 115 = 88 := by kernel_rfl
@[go_sem] theorem t115_fo : fieldsOk Tryz.prog 115 = true := by kernel_rfl
@[go_sem] theorem t121_ag : aggT Tryz.prog 121 = true := by kernel_rfl
@[go_sem] theorem t121_sz : szT Tryz.prog 121 = 8 := by kernel_rfl
@[go_sem] theorem t121_in : (Tryz.prog.info? 121).isSome = true := by kernel_rfl
@[go_sem] theorem t121_un : (Tryz.prog.underlying 121).isSome = true := by kernel_rfl
@[go_sem] theorem t121_ze : zeroT Tryz.prog 121 = some [.int .i64 0, .int .i64 0, .str ⟨#[]⟩, .int .i64 0, .int .i64 0, .int .i64 0, .bool false, .sl none 0] := by kernel_rfl
@[go_sem] theorem t121_by : Tryz.prog.bytesOf 121 = 88 := by kernel_rfl
@[go_sem] theorem t121_fo : fieldsOk Tryz.prog 121 = true := by kernel_rfl
@[go_sem] theorem t131_ag : aggT Tryz.prog 131 = false := by kernel_rfl
@[go_sem] theorem t131_sz : szT Tryz.prog 131 = 1 := by kernel_rfl
@[go_sem] theorem t131_in : (Tryz.prog.info? 131).isSome = true := by kernel_rfl
@[go_sem] theorem t131_un : (Tryz.prog.underlying 131).isSome = true := by kernel_rfl
@[go_sem] theorem t131_ze : zeroT Tryz.prog 131 = some [.map none] := by kernel_rfl
@[go_sem] theorem t131_by : Tryz.prog.bytesOf 131 = 8 := by kernel_rfl
@[go_sem] theorem t143_ag : aggT Tryz.prog 143 = false := by kernel_rfl
@[go_sem] theorem t143_sz : szT Tryz.prog 143 = 1 := by kernel_rfl
@[go_sem] theorem t143_in : (Tryz.prog.info? 143).isSome = true := by kernel_rfl
@[go_sem] theorem t143_un : (Tryz.prog.underlying 143).isSome = true := by kernel_rfl
@[go_sem] theorem t143_ze : zeroT Tryz.prog 143 = some [.map none] := by kernel_rfl
@[go_sem] theorem t143_by : Tryz.prog.bytesOf 143 = 8 := by kernel_rfl
@[go_sem] theorem t167_ag : aggT Tryz.prog 167 = true := by kernel_rfl
@[go_sem] theorem t167_sz : szT Tryz.prog 167 = 3 := by kernel_rfl
@[go_sem] theorem t167_in : (Tryz.prog.info? 167).isSome = true := by kernel_rfl
@[go_sem] theorem t167_un : (Tryz.prog.underlying 167).isSome = true := by kernel_rfl
@[go_sem] theorem t167_ze : zeroT Tryz.prog 167 = some [.sl none 0, .int .i64 0, .bool false] := by kernel_rfl
@[go_sem] theorem t167_by : Tryz.prog.bytesOf 167 = 40 := by kernel_rfl
@[go_sem] theorem t167_fo : fieldsOk Tryz.prog 167 = true := by kernel_rfl
@[go_sem] theorem t184_ag : aggT Tryz.prog 184 = true := by kernel_rfl
@[go_sem] theorem t184_sz : szT Tryz.prog 184 = 2 := by kernel_rfl
@[go_sem] theorem t184_in : (Tryz.prog.info? 184).isSome = true := by kernel_rfl
@[go_sem] theorem t184_un : (Tryz.prog.underlying 184).isSome = true := by kernel_rfl
@[go_sem] theorem t184_ze : zeroT Tryz.prog 184 = some [.str ⟨#[]⟩, .int .i64 0] := by kernel_rfl
@[go_sem] theorem t184_by : Tryz.prog.bytesOf 184 = 24 := by kernel_rfl
@[go_sem] theorem t184_fo : fieldsOk Tryz.prog 184 = true := by kernel_rfl
@[go_sem] theorem t204_ag : aggT Tryz.prog 204 = true := by kernel_rfl
@[go_sem] theorem t204_sz : szT Tryz.prog 204 = 3 := by kernel_rfl
@[go_sem] theorem t204_in : (Tryz.prog.info? 204).isSome = true := by kernel_rfl
@[go_sem] theorem t204_un : (Tryz.prog.underlying 204).isSome = true := by kernel_rfl
@[go_sem] theorem t204_ze : zeroT Tryz.prog 204 = some [.sl none 0, .int .i64 0, .bool false] := by kernel_rfl
@[go_sem] theorem t204_by : Tryz.prog.bytesOf 204 = 40 := by kernel_rfl
@[go_sem] theorem t204_fo : fieldsOk Tryz.prog 204 = true := by kernel_rfl
@[go_sem] theorem t235_ag : aggT Tryz.prog 235 = false := by kernel_rfl
@[go_sem] theorem t235_sz : szT Tryz.prog 235 = 1 := by kernel_rfl
@[go_sem] theorem t235_in : (Tryz.prog.info? 235).isSome = true := by kernel_rfl
@[go_sem] theorem t235_un : (Tryz.prog.underlying 235).isSome = true := by kernel_rfl
@[go_sem] theorem t235_ze : zeroT Tryz.prog 235 = some [.int .u64 0] := by kernel_rfl
@[go_sem] theorem t235_by : Tryz.prog.bytesOf 235 = 8 := by kernel_rfl
@[go_sem] theorem t25_f0 : fieldT Tryz.prog 25 0 = some (0, 1) := by kernel_rfl
@[go_sem] theorem t25_f1 : fieldT Tryz.prog 25 1 = some (1, 1) := by kernel_rfl
@[go_sem] theorem t45_f0 : fieldT Tryz.prog 45 0 = some (0, 1) := by kernel_rfl
@[go_sem] theorem t45_f1 : fieldT Tryz.prog 45 1 = some (1, 1) := by kernel_rfl
@[go_sem] theorem t66_f0 : fieldT Tryz.prog 66 0 = some (0, 1) := by kernel_rfl
@[go_sem] theorem t66_f1 : fieldT Tryz.prog 66 1 = some (1, 1) := by kernel_rfl
@[go_sem] theorem t66_f2 : fieldT Tryz.prog 66 2 = some (2, 1) := by kernel_rfl
@[go_sem] theorem t66_f3 : fieldT Tryz.prog 66 3 = some (3, 1) := by kernel_rfl
@[go_sem] theorem t66_f4 : fieldT Tryz.prog 66 4 = some (4, 1) := by kernel_rfl
@[go_sem] theorem t66_f5 : fieldT Tryz.prog 66 5 = some (5, 1) := by kernel_rfl
@[go_sem] theorem t66_f6 : fieldT Tryz.prog 66 6 = some (6, 1) := by kernel_rfl
@[go_sem] theorem t69_f0 : fieldT Tryz.prog 69 0 = some (0, 1) := by kernel_rfl
@[go_sem] theorem t69_f1 : fieldT Tryz.prog 69 1 = some (1, 1) := by kernel_rfl
@[go_sem] theorem t69_f2 : fieldT Tryz.prog 69 2 = some (2, 1) := by kernel_rfl
@[go_sem] theorem t77_f0 : fieldT Tryz.prog 77 0 = some (0, 1) := by kernel_rfl
@[go_sem] theorem t77_f1 : fieldT Tryz.prog 77 1 = some (1, 1) := by kernel_rfl
@[go_sem] theorem t77_f2 : fieldT Tryz.prog 77 2 = some (2, 1) := by kernel_rfl
@[go_sem] theorem t77_f3 : fieldT Tryz.prog 77 3 = some (3, 1) := by kernel_rfl
@[go_sem] theorem t77_f4 : fieldT Tryz.prog 77 4 = some (4, 3) := by kernel_rfl
@[go_sem] theorem t77_f5 : fieldT Tryz.prog 77 5 = some (7, 1) := by kernel_rfl
@[go_sem] theorem t77_f6 : fieldT Tryz.prog 77 6 = some (8, 2) := by kernel_rfl
@[go_sem] theorem t77_f7 : fieldT Tryz.prog 77 7 = some (10, 1) := by kernel_rfl
@[go_sem] theorem t99_f0 : fieldT Tryz.prog 99 0 = some (0, 1) := by kernel_rfl
@[go_sem] theorem t99_f1 : fieldT Tryz.prog 99 1 = some (1, 1) := by kernel_rfl
@[go_sem] theorem t99_f2 : fieldT Tryz.prog 99 2 = some (2, 1) := by kernel_rfl
@[go_sem] theorem t99_f3 : fieldT Tryz.prog 99 3 = some (3, 1) := by kernel_rfl
@[go_sem] theorem t115_f0 : fieldT Tryz.prog 115 0 = some (0, 7) := by kernel_rfl
@[go_sem] theorem t115_f1 : fieldT Tryz.prog 115 1 = some (7, 1) := by kernel_rfl
@[go_sem] theorem t121_f0 : fieldT Tryz.prog 121 0 = some (0, 7) := by kernel_rfl
@[go_sem] theorem t121_f1 : fieldT Tryz.prog 121 1 = some (7, 1) := by kernel_rfl
@[go_sem] theorem t167_f0 : fieldT Tryz.prog 167 0 = some (0, 1) := by kernel_rfl
@[go_sem] theorem t167_f1 : fieldT Tryz.prog 167 1 = some (1, 1) := by kernel_rfl
@[go_sem] theorem t167_f2 : fieldT Tryz.prog 167 2 = some (2, 1) := by kernel_rfl
@[go_sem] theorem t184_f0 : fieldT Tryz.prog 184 0 = some (0, 1) := by kernel_rfl
@[go_sem] theorem t184_f1 : fieldT Tryz.prog 184 1 = some (1, 1) := by kernel_rfl
@[go_sem] theorem t204_f0 : fieldT Tryz.prog 204 0 = some (0, 1) := by kernel_rfl
@[go_sem] theorem t204_f1 : fieldT Tryz.prog 204 1 = some (1, 1) := by kernel_rfl
@[go_sem] theorem t204_f2 : fieldT Tryz.prog 204 2 = some (2, 1) := by kernel_rfl
@[go_sem] theorem t9_st : strT Tryz.prog 9 = true := by kernel_rfl
@[go_sem] theorem t9_el : elemT Tryz.prog 9 = none := by kernel_rfl
@[go_sem] theorem t9_us : Tryz.prog.underlying 9 = some .string := by kernel_rfl
@[go_sem] theorem t22_el : elemT Tryz.prog 22 = some 3 := by kernel_rfl
@[go_sem] theorem t22_st : strT Tryz.prog 22 = false := by kernel_rfl
@[go_sem] theorem t26_el : elemT Tryz.prog 26 = some 5 := by kernel_rfl
@[go_sem] theorem t26_st : strT Tryz.prog 26 = false := by kernel_rfl
@[go_sem] theorem t30_el : elemT Tryz.prog 30 = some 69 := by kernel_rfl
@[go_sem] theorem t30_st : strT Tryz.prog 30 = false := by kernel_rfl
@[go_sem] theorem t48_el : elemT Tryz.prog 48 = some 66 := by kernel_rfl
@[go_sem] theorem t48_st : strT Tryz.prog 48 = false := by kernel_rfl
@[go_sem] theorem t54_el : elemT Tryz.prog 54 = some 9 := by kernel_rfl
@[go_sem] theorem t54_st : strT Tryz.prog 54 = false := by kernel_rfl
@[go_sem] theorem t71_el : elemT Tryz.prog 71 = some 77 := by kernel_rfl
@[go_sem] theorem t71_st : strT Tryz.prog 71 = false := by kernel_rfl
@[go_sem] theorem t96_el : elemT Tryz.prog 96 = some 121 := by kernel_rfl
@[go_sem] theorem t96_st : strT Tryz.prog 96 = false := by kernel_rfl
@[go_sem] theorem t108_el : elemT Tryz.prog 108 = some 115 := by kernel_rfl
@[go_sem] theorem t108_st : strT Tryz.prog 108 = false := by kernel_rfl
@[go_sem] theorem t123_el : elemT Tryz.prog 123 = some 34 := by kernel_rfl
@[go_sem] theorem t123_st : strT Tryz.prog 123 = false := by kernel_rfl
@[go_sem] theorem t171_el : elemT Tryz.prog 171 = some 26 := by kernel_rfl
@[go_sem] theorem t171_st : strT Tryz.prog 171 = false := by kernel_rfl
@[go_sem] theorem t180_el : elemT Tryz.prog 180 = some 71 := by kernel_rfl
@[go_sem] theorem t180_st : strT Tryz.prog 180 = false := by kernel_rfl
@[go_sem] theorem t231_el : elemT Tryz.prog 231 = some 30 := by kernel_rfl
@[go_sem] theorem t231_st : strT Tryz.prog 231 = false := by kernel_rfl
@[go_sem] theorem t3_ik : intK Tryz.prog 3 = some .i64 := by kernel_rfl
@[go_sem] theorem t5_ik : intK Tryz.prog 5 = some .u8 := by kernel_rfl
@[go_sem] theorem t9_ik : intK Tryz.prog 9 = none := by kernel_rfl
@[go_sem] theorem t26_ik : intK Tryz.prog 26 = none := by kernel_rfl
@[go_sem] theorem t164_un : (Tryz.prog.underlying 164).isSome = true := by kernel_rfl
@[go_sem] theorem t164_ik : intK Tryz.prog 164 = some .u64 := by kernel_rfl
@[go_sem] theorem t217_un : (Tryz.prog.underlying 217).isSome = true := by kernel_rfl
@[go_sem] theorem t217_ik : intK Tryz.prog 217 = some .u32 := by kernel_rfl
@[go_sem] theorem t219_un : (Tryz.prog.underlying 219).isSome = true := by kernel_rfl
@[go_sem] theorem t219_ik : intK Tryz.prog 219 = some .u64 := by kernel_rfl
@[go_sem] theorem t235_ik : intK Tryz.prog 235 = some .u64 := by kernel_rfl
@[go_sem] theorem t3_bt : bytesT Tryz.prog 3 = false := by kernel_rfl
@[go_sem] theorem t5_bt : bytesT Tryz.prog 5 = false := by kernel_rfl
@[go_sem] theorem t9_bt : bytesT Tryz.prog 9 = false := by kernel_rfl
@[go_sem] theorem t26_bt : bytesT Tryz.prog 26 = true := by kernel_rfl
@[go_sem] theorem t164_bt : bytesT Tryz.prog 164 = false := by kernel_rfl
@[go_sem] theorem t217_bt : bytesT Tryz.prog 217 = false := by kernel_rfl
@[go_sem] theorem t219_bt : bytesT Tryz.prog 219 = false := by kernel_rfl
@[go_sem] theorem t235_bt : bytesT Tryz.prog 235 = false := by kernel_rfl
@[go_sem] theorem t9_co : conT Tryz.prog 9 = true := by kernel_rfl
@[go_sem] theorem t4_kd : kindT Tryz.prog 4 = 1 := by kernel_rfl
@[go_sem] theorem t26_kd : kindT Tryz.prog 26 = 3 := by kernel_rfl
@[go_sem] theorem t66_fk : fieldsK Tryz.prog 66 = some [(0, 1), (1, 1), (2, 3), (3, 1), (4, 1), (5, 1), (6, 2)] := by kernel_rfl
@[go_sem] theorem t69_fk : fieldsK Tryz.prog 69 = some [(0, 1), (1, 1), (2, 1)] := by kernel_rfl
@[go_sem] theorem t71_kd : kindT Tryz.prog 71 = 3 := by kernel_rfl
@[go_sem] theorem t77_fk : fieldsK Tryz.prog 77 = some [(0, 3), (1, 1), (2, 1), (3, 1), (4, 1), (5, 1), (6, 1), (7, 1), (8, 1), (9, 1), (10, 1)] := by kernel_rfl
@[go_sem] theorem f2_en : entersB Tryz.prog 2 = true := by kernel_rfl
@[go_sem] theorem f2_rs : Tryz.f2.results.toList = [] := by kernel_rfl
@[go_sem] theorem f2_nt : Tryz.f2.ntmps = 1 := by kernel_rfl
@[go_sem] theorem f3_en : entersB Tryz.prog 3 = true := by kernel_rfl
@[go_sem] theorem f3_rs : Tryz.f3.results.toList = [.tmp 2] := by kernel_rfl
@[go_sem] theorem f3_nt : Tryz.f3.ntmps = 146 := by kernel_rfl
@[go_sem] theorem f4_en : entersB Tryz.prog 4 = true := by kernel_rfl
@[go_sem] theorem f4_rs : Tryz.f4.results.toList = [.tmp 2] := by kernel_rfl
@[go_sem] theorem f4_nt : Tryz.f4.ntmps = 163 := by kernel_rfl
@[go_sem] theorem f5_en : entersB Tryz.prog 5 = true := by kernel_rfl
@[go_sem] theorem f5_rs : Tryz.f5.results.toList = [.tmp 2] := by kernel_rfl
@[go_sem] theorem f5_nt : Tryz.f5.ntmps = 198 := by kernel_rfl
@[go_sem] theorem f6_en : entersB Tryz.prog 6 = true := by kernel_rfl
@[go_sem] theorem f6_rs : Tryz.f6.results.toList = [.tmp 4] := by kernel_rfl
@[go_sem] theorem f6_nt : Tryz.f6.ntmps = 59 := by kernel_rfl
@[go_sem] theorem f7_en : entersB Tryz.prog 7 = true := by kernel_rfl
@[go_sem] theorem f7_rs : Tryz.f7.results.toList = [.tmp 2] := by kernel_rfl
@[go_sem] theorem f7_nt : Tryz.f7.ntmps = 31 := by kernel_rfl
@[go_sem] theorem f8_en : entersB Tryz.prog 8 = true := by kernel_rfl
@[go_sem] theorem f8_rs : Tryz.f8.results.toList = [.tmp 4] := by kernel_rfl
@[go_sem] theorem f8_nt : Tryz.f8.ntmps = 12 := by kernel_rfl
@[go_sem] theorem f9_en : entersB Tryz.prog 9 = true := by kernel_rfl
@[go_sem] theorem f9_rs : Tryz.f9.results.toList = [.tmp 4] := by kernel_rfl
@[go_sem] theorem f9_nt : Tryz.f9.ntmps = 25 := by kernel_rfl
@[go_sem] theorem f10_en : entersB Tryz.prog 10 = true := by kernel_rfl
@[go_sem] theorem f10_rs : Tryz.f10.results.toList = [.tmp 4] := by kernel_rfl
@[go_sem] theorem f10_nt : Tryz.f10.ntmps = 9 := by kernel_rfl
@[go_sem] theorem f11_en : entersB Tryz.prog 11 = true := by kernel_rfl
@[go_sem] theorem f11_rs : Tryz.f11.results.toList = [.tmp 2] := by kernel_rfl
@[go_sem] theorem f11_nt : Tryz.f11.ntmps = 27 := by kernel_rfl
@[go_sem] theorem f12_en : entersB Tryz.prog 12 = true := by kernel_rfl
@[go_sem] theorem f12_rs : Tryz.f12.results.toList = [.tmp 2, .tmp 3, .tmp 4] := by kernel_rfl
@[go_sem] theorem f12_nt : Tryz.f12.ntmps = 37 := by kernel_rfl
@[go_sem] theorem f13_en : entersB Tryz.prog 13 = true := by kernel_rfl
@[go_sem] theorem f13_rs : Tryz.f13.results.toList = [.tmp 2, .tmp 3, .tmp 4] := by kernel_rfl
@[go_sem] theorem f13_nt : Tryz.f13.ntmps = 49 := by kernel_rfl
@[go_sem] theorem f14_en : entersB Tryz.prog 14 = true := by kernel_rfl
@[go_sem] theorem f14_rs : Tryz.f14.results.toList = [.tmp 2, .tmp 3] := by kernel_rfl
@[go_sem] theorem f14_nt : Tryz.f14.ntmps = 42 := by kernel_rfl
@[go_sem] theorem f15_en : entersB Tryz.prog 15 = true := by kernel_rfl
@[go_sem] theorem f15_rs : Tryz.f15.results.toList = [.tmp 4, .tmp 5] := by kernel_rfl
@[go_sem] theorem f15_nt : Tryz.f15.ntmps = 166 := by kernel_rfl
@[go_sem] theorem f16_en : entersB Tryz.prog 16 = true := by kernel_rfl
@[go_sem] theorem f16_rs : Tryz.f16.results.toList = [.tmp 2, .tmp 3, .tmp 4] := by kernel_rfl
@[go_sem] theorem f16_nt : Tryz.f16.ntmps = 25 := by kernel_rfl
@[go_sem] theorem f17_en : entersB Tryz.prog 17 = true := by kernel_rfl
@[go_sem] theorem f17_rs : Tryz.f17.results.toList = [.tmp 2, .tmp 3, .tmp 4] := by kernel_rfl
@[go_sem] theorem f17_nt : Tryz.f17.ntmps = 60 := by kernel_rfl
@[go_sem] theorem f18_en : entersB Tryz.prog 18 = true := by kernel_rfl
@[go_sem] theorem f18_rs : Tryz.f18.results.toList = [.tmp 2, .tmp 3] := by kernel_rfl
@[go_sem] theorem f18_nt : Tryz.f18.ntmps = 42 := by kernel_rfl
@[go_sem] theorem f19_en : entersB Tryz.prog 19 = true := by kernel_rfl
@[go_sem] theorem f19_rs : Tryz.f19.results.toList = [.tmp 4, .tmp 5] := by kernel_rfl
@[go_sem] theorem f19_nt : Tryz.f19.ntmps = 64 := by kernel_rfl
@[go_sem] theorem f20_en : entersB Tryz.prog 20 = true := by kernel_rfl
@[go_sem] theorem f20_rs : Tryz.f20.results.toList = [.tmp 4] := by kernel_rfl
@[go_sem] theorem f20_nt : Tryz.f20.ntmps = 10 := by kernel_rfl
@[go_sem] theorem f21_en : entersB Tryz.prog 21 = true := by kernel_rfl
@[go_sem] theorem f21_rs : Tryz.f21.results.toList = [.tmp 0] := by kernel_rfl
@[go_sem] theorem f21_nt : Tryz.f21.ntmps = 14 := by kernel_rfl
@[go_sem] theorem f22_en : entersB Tryz.prog 22 = true := by kernel_rfl
@[go_sem] theorem f22_rs : Tryz.f22.results.toList = [.cell 2 45] := by kernel_rfl
@[go_sem] theorem f22_nt : Tryz.f22.ntmps = 10 := by kernel_rfl
@[go_sem] theorem f23_en : entersB Tryz.prog 23 = true := by kernel_rfl
@[go_sem] theorem f23_rs : Tryz.f23.results.toList = [.tmp 6, .tmp 7] := by kernel_rfl
@[go_sem] theorem f23_nt : Tryz.f23.ntmps = 71 := by kernel_rfl
@[go_sem] theorem f24_en : entersB Tryz.prog 24 = true := by kernel_rfl
@[go_sem] theorem f24_rs : Tryz.f24.results.toList = [.tmp 2, .tmp 3] := by kernel_rfl
@[go_sem] theorem f24_nt : Tryz.f24.ntmps = 33 := by kernel_rfl
@[go_sem] theorem f25_en : entersB Tryz.prog 25 = true := by kernel_rfl
@[go_sem] theorem f25_rs : Tryz.f25.results.toList = [.tmp 6, .tmp 7] := by kernel_rfl
@[go_sem] theorem f25_nt : Tryz.f25.ntmps = 64 := by kernel_rfl
@[go_sem] theorem f26_en : entersB Tryz.prog 26 = true := by kernel_rfl
@[go_sem] theorem f26_rs : Tryz.f26.results.toList = [.tmp 6, .tmp 7] := by kernel_rfl
@[go_sem] theorem f26_nt : Tryz.f26.ntmps = 33 := by kernel_rfl
@[go_sem] theorem f27_en : entersB Tryz.prog 27 = true := by kernel_rfl
@[go_sem] theorem f27_rs : Tryz.f27.results.toList = [.tmp 2, .tmp 3] := by kernel_rfl
@[go_sem] theorem f27_nt : Tryz.f27.ntmps = 16 := by kernel_rfl
@[go_sem] theorem f28_en : entersB Tryz.prog 28 = true := by kernel_rfl
@[go_sem] theorem f28_rs : Tryz.f28.results.toList = [.tmp 2] := by kernel_rfl
@[go_sem] theorem f28_nt : Tryz.f28.ntmps = 13 := by kernel_rfl
@[go_sem] theorem f29_en : entersB Tryz.prog 29 = true := by kernel_rfl
@[go_sem] theorem f29_rs : Tryz.f29.results.toList = [.tmp 2] := by kernel_rfl
@[go_sem] theorem f29_nt : Tryz.f29.ntmps = 15 := by kernel_rfl
@[go_sem] theorem f30_en : entersB Tryz.prog 30 = true := by kernel_rfl
@[go_sem] theorem f30_rs : Tryz.f30.results.toList = [.tmp 2] := by kernel_rfl
@[go_sem] theorem f30_nt : Tryz.f30.ntmps = 7 := by kernel_rfl
@[go_sem] theorem f31_en : entersB Tryz.prog 31 = true := by kernel_rfl
@[go_sem] theorem f31_rs : Tryz.f31.results.toList = [.tmp 2] := by kernel_rfl
@[go_sem] theorem f31_nt : Tryz.f31.ntmps = 14 := by kernel_rfl
@[go_sem] theorem f32_en : entersB Tryz.prog 32 = true := by kernel_rfl
@[go_sem] theorem f32_rs : Tryz.f32.results.toList = [.tmp 6, .tmp 7] := by kernel_rfl
@[go_sem] theorem f32_nt : Tryz.f32.ntmps = 69 := by kernel_rfl
@[go_sem] theorem f33_en : entersB Tryz.prog 33 = true := by kernel_rfl
@[go_sem] theorem f33_rs : Tryz.f33.results.toList = [.tmp 2] := by kernel_rfl
@[go_sem] theorem f33_nt : Tryz.f33.ntmps = 28 := by kernel_rfl
@[go_sem] theorem f34_en : entersB Tryz.prog 34 = true := by kernel_rfl
@[go_sem] theorem f34_rs : Tryz.f34.results.toList = [.tmp 2] := by kernel_rfl
@[go_sem] theorem f34_nt : Tryz.f34.ntmps = 23 := by kernel_rfl
@[go_sem] theorem f35_en : entersB Tryz.prog 35 = true := by kernel_rfl
@[go_sem] theorem f35_rs : Tryz.f35.results.toList = [.tmp 6] := by kernel_rfl
@[go_sem] theorem f35_nt : Tryz.f35.ntmps = 11 := by kernel_rfl
@[go_sem] theorem f36_en : entersB Tryz.prog 36 = true := by kernel_rfl
@[go_sem] theorem f36_rs : Tryz.f36.results.toList = [.tmp 6, .tmp 7] := by kernel_rfl
@[go_sem] theorem f36_nt : Tryz.f36.ntmps = 75 := by kernel_rfl
@[go_sem] theorem f37_en : entersB Tryz.prog 37 = true := by kernel_rfl
@[go_sem] theorem f37_rs : Tryz.f37.results.toList = [.tmp 4] := by kernel_rfl
@[go_sem] theorem f37_nt : Tryz.f37.ntmps = 26 := by kernel_rfl
@[go_sem] theorem f38_en : entersB Tryz.prog 38 = true := by kernel_rfl
@[go_sem] theorem f38_rs : Tryz.f38.results.toList = [.tmp 4] := by kernel_rfl
@[go_sem] theorem f38_nt : Tryz.f38.ntmps = 26 := by kernel_rfl
@[go_sem] theorem f39_en : entersB Tryz.prog 39 = true := by kernel_rfl
@[go_sem] theorem f39_rs : Tryz.f39.results.toList = [.tmp 4] := by kernel_rfl
@[go_sem] theorem f39_nt : Tryz.f39.ntmps = 26 := by kernel_rfl
@[go_sem] theorem f40_en : entersB Tryz.prog 40 = true := by kernel_rfl
@[go_sem] theorem f40_rs : Tryz.f40.results.toList = [.tmp 4] := by kernel_rfl
@[go_sem] theorem f40_nt : Tryz.f40.ntmps = 113 := by kernel_rfl
@[go_sem] theorem f41_en : entersB Tryz.prog 41 = true := by kernel_rfl
@[go_sem] theorem f41_rs : Tryz.f41.results.toList = [.tmp 6] := by kernel_rfl
@[go_sem] theorem f41_nt : Tryz.f41.ntmps = 19 := by kernel_rfl
@[go_sem] theorem f42_en : entersB Tryz.prog 42 = true := by kernel_rfl
@[go_sem] theorem f42_rs : Tryz.f42.results.toList = [.tmp 4] := by kernel_rfl
@[go_sem] theorem f42_nt : Tryz.f42.ntmps = 12 := by kernel_rfl
@[go_sem] theorem f43_en : entersB Tryz.prog 43 = true := by kernel_rfl
@[go_sem] theorem f43_rs : Tryz.f43.results.toList = [.tmp 2] := by kernel_rfl
@[go_sem] theorem f43_nt : Tryz.f43.ntmps = 8 := by kernel_rfl
@[go_sem] theorem f44_en : entersB Tryz.prog 44 = true := by kernel_rfl
@[go_sem] theorem f44_rs : Tryz.f44.results.toList = [.tmp 4] := by kernel_rfl
@[go_sem] theorem f44_nt : Tryz.f44.ntmps = 64 := by kernel_rfl
@[go_sem] theorem f45_en : entersB Tryz.prog 45 = true := by kernel_rfl
@[go_sem] theorem f45_rs : Tryz.f45.results.toList = [.tmp 4, .tmp 5] := by kernel_rfl
@[go_sem] theorem f45_nt : Tryz.f45.ntmps = 33 := by kernel_rfl
@[go_sem] theorem f46_en : entersB Tryz.prog 46 = true := by kernel_rfl
@[go_sem] theorem f46_rs : Tryz.f46.results.toList = [.tmp 6, .tmp 7] := by kernel_rfl
@[go_sem] theorem f46_nt : Tryz.f46.ntmps = 28 := by kernel_rfl
@[go_sem] theorem f47_en : entersB Tryz.prog 47 = true := by kernel_rfl
@[go_sem] theorem f47_rs : Tryz.f47.results.toList = [.tmp 4, .tmp 5] := by kernel_rfl
@[go_sem] theorem f47_nt : Tryz.f47.ntmps = 56 := by kernel_rfl
@[go_sem] theorem f48_en : entersB Tryz.prog 48 = true := by kernel_rfl
@[go_sem] theorem f48_rs : Tryz.f48.results.toList = [.tmp 8, .tmp 9] := by kernel_rfl
@[go_sem] theorem f48_nt : Tryz.f48.ntmps = 48 := by kernel_rfl
@[go_sem] theorem f49_en : entersB Tryz.prog 49 = true := by kernel_rfl
@[go_sem] theorem f49_rs : Tryz.f49.results.toList = [.tmp 2] := by kernel_rfl
@[go_sem] theorem f49_nt : Tryz.f49.ntmps = 49 := by kernel_rfl
@[go_sem] theorem f50_en : entersB Tryz.prog 50 = true := by kernel_rfl
@[go_sem] theorem f50_rs : Tryz.f50.results.toList = [.tmp 2] := by kernel_rfl
@[go_sem] theorem f50_nt : Tryz.f50.ntmps = 35 := by kernel_rfl
@[go_sem] theorem f51_en : entersB Tryz.prog 51 = true := by kernel_rfl
@[go_sem] theorem f51_rs : Tryz.f51.results.toList = [.tmp 2] := by kernel_rfl
@[go_sem] theorem f51_nt : Tryz.f51.ntmps = 6 := by kernel_rfl
@[go_sem] theorem f52_en : entersB Tryz.prog 52 = true := by kernel_rfl
@[go_sem] theorem f52_rs : Tryz.f52.results.toList = [.tmp 4, .tmp 5] := by kernel_rfl
@[go_sem] theorem f52_nt : Tryz.f52.ntmps = 40 := by kernel_rfl
@[go_sem] theorem f53_en : entersB Tryz.prog 53 = true := by kernel_rfl
@[go_sem] theorem f53_rs : Tryz.f53.results.toList = [.tmp 6, .tmp 7] := by kernel_rfl
@[go_sem] theorem f53_nt : Tryz.f53.ntmps = 39 := by kernel_rfl
@[go_sem] theorem f54_en : entersB Tryz.prog 54 = true := by kernel_rfl
@[go_sem] theorem f54_rs : Tryz.f54.results.toList = [.tmp 4] := by kernel_rfl
@[go_sem] theorem f54_nt : Tryz.f54.ntmps = 35 := by kernel_rfl
@[go_sem] theorem f55_en : entersB Tryz.prog 55 = true := by kernel_rfl
@[go_sem] theorem f55_rs : Tryz.f55.results.toList = [.tmp 8, .tmp 9] := by kernel_rfl
@[go_sem] theorem f55_nt : Tryz.f55.ntmps = 81 := by kernel_rfl
@[go_sem] theorem f56_en : entersB Tryz.prog 56 = true := by kernel_rfl
@[go_sem] theorem f56_rs : Tryz.f56.results.toList = [.tmp 2] := by kernel_rfl
@[go_sem] theorem f56_nt : Tryz.f56.ntmps = 36 := by kernel_rfl
@[go_sem] theorem f57_en : entersB Tryz.prog 57 = true := by kernel_rfl
@[go_sem] theorem f57_rs : Tryz.f57.results.toList = [.tmp 4] := by kernel_rfl
@[go_sem] theorem f57_nt : Tryz.f57.ntmps = 26 := by kernel_rfl
@[go_sem] theorem f58_en : entersB Tryz.prog 58 = true := by kernel_rfl
@[go_sem] theorem f58_rs : Tryz.f58.results.toList = [.tmp 4] := by kernel_rfl
@[go_sem] theorem f58_nt : Tryz.f58.ntmps = 26 := by kernel_rfl
@[go_sem] theorem f59_en : entersB Tryz.prog 59 = true := by kernel_rfl
@[go_sem] theorem f59_rs : Tryz.f59.results.toList = [.tmp 0] := by kernel_rfl
@[go_sem] theorem f59_nt : Tryz.f59.ntmps = 25 := by kernel_rfl
@[go_sem] theorem f60_en : entersB Tryz.prog 60 = true := by kernel_rfl
@[go_sem] theorem f60_rs : Tryz.f60.results.toList = [.tmp 2] := by kernel_rfl
@[go_sem] theorem f60_nt : Tryz.f60.ntmps = 8 := by kernel_rfl
@[go_sem] theorem f63_en : entersB Tryz.prog 63 = true := by kernel_rfl
@[go_sem] theorem f63_rs : Tryz.f63.results.toList = [.tmp 4] := by kernel_rfl
@[go_sem] theorem f63_nt : Tryz.f63.ntmps = 39 := by kernel_rfl
@[go_sem] theorem f64_en : entersB Tryz.prog 64 = true := by kernel_rfl
@[go_sem] theorem f64_rs : Tryz.f64.results.toList = [.cell 2 69] := by kernel_rfl
@[go_sem] theorem f64_nt : Tryz.f64.ntmps = 13 := by kernel_rfl
@[go_sem] theorem f69_en : entersB Tryz.prog 69 = true := by kernel_rfl
@[go_sem] theorem f69_rs : Tryz.f69.results.toList = [.tmp 6] := by kernel_rfl
@[go_sem] theorem f69_nt : Tryz.f69.ntmps = 60 := by kernel_rfl
@[go_sem] theorem f71_en : entersB Tryz.prog 71 = true := by kernel_rfl
@[go_sem] theorem f71_rs : Tryz.f71.results.toList = [.tmp 2] := by kernel_rfl
@[go_sem] theorem f71_nt : Tryz.f71.ntmps = 54 := by kernel_rfl
@[go_sem] theorem f72_en : entersB Tryz.prog 72 = true := by kernel_rfl
@[go_sem] theorem f72_rs : Tryz.f72.results.toList = [.tmp 2] := by kernel_rfl
@[go_sem] theorem f72_nt : Tryz.f72.ntmps = 35 := by kernel_rfl
@[go_sem] theorem f77_en : entersB Tryz.prog 77 = true := by kernel_rfl
@[go_sem] theorem f77_rs : Tryz.f77.results.toList = [.tmp 6] := by kernel_rfl
@[go_sem] theorem f77_nt : Tryz.f77.ntmps = 19 := by kernel_rfl
@[go_sem] theorem f78_en : entersB Tryz.prog 78 = true := by kernel_rfl
@[go_sem] theorem f78_rs : Tryz.f78.results.toList = [.tmp 2] := by kernel_rfl
@[go_sem] theorem f78_nt : Tryz.f78.ntmps = 15 := by kernel_rfl
@[go_sem] theorem f83_en : entersB Tryz.prog 83 = true := by kernel_rfl
@[go_sem] theorem f83_rs : Tryz.f83.results.toList = [.tmp 2] := by kernel_rfl
@[go_sem] theorem f83_nt : Tryz.f83.ntmps = 14 := by kernel_rfl
@[go_sem] theorem f84_en : entersB Tryz.prog 84 = true := by kernel_rfl
@[go_sem] theorem f84_rs : Tryz.f84.results.toList = [.tmp 4] := by kernel_rfl
@[go_sem] theorem f84_nt : Tryz.f84.ntmps = 7 := by kernel_rfl
@[go_sem] theorem f85_en : entersB Tryz.prog 85 = true := by kernel_rfl
@[go_sem] theorem f85_rs : Tryz.f85.results.toList = [.tmp 6] := by kernel_rfl
@[go_sem] theorem f85_nt : Tryz.f85.ntmps = 15 := by kernel_rfl
@[go_sem] theorem f87_en : entersB Tryz.prog 87 = true := by kernel_rfl
@[go_sem] theorem f87_rs : Tryz.f87.results.toList = [] := by kernel_rfl
@[go_sem] theorem f87_nt : Tryz.f87.ntmps = 11 := by kernel_rfl
@[go_sem] theorem f88_en : entersB Tryz.prog 88 = true := by kernel_rfl
@[go_sem] theorem f88_rs : Tryz.f88.results.toList = [.tmp 2] := by kernel_rfl
@[go_sem] theorem f88_nt : Tryz.f88.ntmps = 61 := by kernel_rfl
@[go_sem] theorem f90_en : entersB Tryz.prog 90 = true := by kernel_rfl
@[go_sem] theorem f90_rs : Tryz.f90.results.toList = [.tmp 4] := by kernel_rfl
@[go_sem] theorem f90_nt : Tryz.f90.ntmps = 30 := by kernel_rfl
@[go_sem] theorem f94_en : entersB Tryz.prog 94 = true := by kernel_rfl
@[go_sem] theorem f94_rs : Tryz.f94.results.toList = [.tmp 2] := by kernel_rfl
@[go_sem] theorem f94_nt : Tryz.f94.ntmps = 9 := by kernel_rfl
@[go_sem] theorem f95_en : entersB Tryz.prog 95 = true := by kernel_rfl
@[go_sem] theorem f95_rs : Tryz.f95.results.toList = [.tmp 6] := by kernel_rfl
@[go_sem] theorem f95_nt : Tryz.f95.ntmps = 22 := by kernel_rfl
@[go_sem] theorem f96_en : entersB Tryz.prog 96 = true := by kernel_rfl
@[go_sem] theorem f96_rs : Tryz.f96.results.toList = [] := by kernel_rfl
@[go_sem] theorem f96_nt : Tryz.f96.ntmps = 9 := by kernel_rfl
@[go_sem] theorem f97_en : entersB Tryz.prog 97 = true := by kernel_rfl
@[go_sem] theorem f97_rs : Tryz.f97.results.toList = [.tmp 4] := by kernel_rfl
@[go_sem] theorem f97_nt : Tryz.f97.ntmps = 34 := by kernel_rfl
@[go_sem] theorem f98_en : entersB Tryz.prog 98 = true := by kernel_rfl
@[go_sem] theorem f98_rs : Tryz.f98.results.toList = [.tmp 4] := by kernel_rfl
@[go_sem] theorem f98_nt : Tryz.f98.ntmps = 16 := by kernel_rfl
@[go_sem] theorem f99_en : entersB Tryz.prog 99 = true := by kernel_rfl
@[go_sem] theorem f99_rs : Tryz.f99.results.toList = [.tmp 2] := by kernel_rfl
@[go_sem] theorem f99_nt : Tryz.f99.ntmps = 15 := by kernel_rfl
@[go_sem] theorem f100_en : entersB Tryz.prog 100 = true := by kernel_rfl
@[go_sem] theorem f100_rs : Tryz.f100.results.toList = [.tmp 2] := by kernel_rfl
@[go_sem] theorem f100_nt : Tryz.f100.ntmps = 36 := by kernel_rfl
@[go_sem] theorem f101_en : entersB Tryz.prog 101 = true := by kernel_rfl
@[go_sem] theorem f101_rs : Tryz.f101.results.toList = [.tmp 4] := by kernel_rfl
@[go_sem] theorem f101_nt : Tryz.f101.ntmps = 22 := by kernel_rfl
@[go_sem] theorem f102_en : entersB Tryz.prog 102 = true := by kernel_rfl
@[go_sem] theorem f102_rs : Tryz.f102.results.toList = [.tmp 2] := by kernel_rfl
@[go_sem] theorem f102_nt : Tryz.f102.ntmps = 61 := by kernel_rfl
@[go_sem] theorem f103_en : entersB Tryz.prog 103 = true := by kernel_rfl
@[go_sem] theorem f103_rs : Tryz.f103.results.toList = [.tmp 2] := by kernel_rfl
@[go_sem] theorem f103_nt : Tryz.f103.ntmps = 25 := by kernel_rfl
@[go_sem] theorem f104_en : entersB Tryz.prog 104 = true := by kernel_rfl
@[go_sem] theorem f104_rs : Tryz.f104.results.toList = [.tmp 4] := by kernel_rfl
@[go_sem] theorem f104_nt : Tryz.f104.ntmps = 11 := by kernel_rfl
@[go_sem] theorem f105_en : entersB Tryz.prog 105 = true := by kernel_rfl
@[go_sem] theorem f105_rs : Tryz.f105.results.toList = [.tmp 2] := by kernel_rfl
@[go_sem] theorem f105_nt : Tryz.f105.ntmps = 6 := by kernel_rfl
@[go_sem] theorem f106_en : entersB Tryz.prog 106 = true := by kernel_rfl
@[go_sem] theorem f106_rs : Tryz.f106.results.toList = [.tmp 2] := by kernel_rfl
@[go_sem] theorem f106_nt : Tryz.f106.ntmps = 22 := by kernel_rfl
@[go_sem] theorem f107_en : entersB Tryz.prog 107 = true := by kernel_rfl
@[go_sem] theorem f107_rs : Tryz.f107.results.toList = [.tmp 6] := by kernel_rfl
@[go_sem] theorem f107_nt : Tryz.f107.ntmps = 56 := by kernel_rfl
@[go_sem] theorem f108_en : entersB Tryz.prog 108 = true := by kernel_rfl
@[go_sem] theorem f108_rs : Tryz.f108.results.toList = [.tmp 4] := by kernel_rfl
@[go_sem] theorem f108_nt : Tryz.f108.ntmps = 66 := by kernel_rfl
@[go_sem] theorem f109_en : entersB Tryz.prog 109 = true := by kernel_rfl
@[go_sem] theorem f109_rs : Tryz.f109.results.toList = [.tmp 4] := by kernel_rfl
@[go_sem] theorem f109_nt : Tryz.f109.ntmps = 73 := by kernel_rfl
@[go_sem] theorem f110_en : entersB Tryz.prog 110 = true := by kernel_rfl
@[go_sem] theorem f110_rs : Tryz.f110.results.toList = [.tmp 2] := by kernel_rfl
@[go_sem] theorem f110_nt : Tryz.f110.ntmps = 74 := by kernel_rfl
@[go_sem] theorem f111_en : entersB Tryz.prog 111 = true := by kernel_rfl
@[go_sem] theorem f111_rs : Tryz.f111.results.toList = [.tmp 4] := by kernel_rfl
@[go_sem] theorem f111_nt : Tryz.f111.ntmps = 9 := by kernel_rfl
@[go_sem] theorem f112_en : entersB Tryz.prog 112 = true := by kernel_rfl
@[go_sem] theorem f112_rs : Tryz.f112.results.toList = [.tmp 3] := by kernel_rfl
@[go_sem] theorem f112_nt : Tryz.f112.ntmps = 7 := by kernel_rfl
@[go_sem] theorem f113_en : entersB Tryz.prog 113 = true := by kernel_rfl
@[go_sem] theorem f113_rs : Tryz.f113.results.toList = [.tmp 4] := by kernel_rfl
@[go_sem] theorem f113_nt : Tryz.f113.ntmps = 17 := by kernel_rfl
@[go_sem] theorem f114_en : entersB Tryz.prog 114 = true := by kernel_rfl
@[go_sem] theorem f114_rs : Tryz.f114.results.toList = [.tmp 2] := by kernel_rfl
@[go_sem] theorem f114_nt : Tryz.f114.ntmps = 27 := by kernel_rfl
@[go_sem] theorem f115_en : entersB Tryz.prog 115 = true := by kernel_rfl
@[go_sem] theorem f115_rs : Tryz.f115.results.toList = [.tmp 2] := by kernel_rfl
@[go_sem] theorem f115_nt : Tryz.f115.ntmps = 5 := by kernel_rfl
@[go_sem] theorem f116_en : entersB Tryz.prog 116 = true := by kernel_rfl
@[go_sem] theorem f116_rs : Tryz.f116.results.toList = [.tmp 4] := by kernel_rfl
@[go_sem] theorem f116_nt : Tryz.f116.ntmps = 19 := by kernel_rfl
@[go_sem] theorem f117_en : entersB Tryz.prog 117 = true := by kernel_rfl
@[go_sem] theorem f117_rs : Tryz.f117.results.toList = [.tmp 3] := by kernel_rfl
@[go_sem] theorem f117_nt : Tryz.f117.ntmps = 7 := by kernel_rfl
@[go_sem] theorem f118_en : entersB Tryz.prog 118 = true := by kernel_rfl
@[go_sem] theorem f118_rs : Tryz.f118.results.toList = [] := by kernel_rfl
@[go_sem] theorem f118_nt : Tryz.f118.ntmps = 14 := by kernel_rfl
@[go_sem] theorem f119_en : entersB Tryz.prog 119 = true := by kernel_rfl
@[go_sem] theorem f119_rs : Tryz.f119.results.toList = [.tmp 4] := by kernel_rfl
@[go_sem] theorem f119_nt : Tryz.f119.ntmps = 42 := by kernel_rfl
@[go_sem] theorem f120_en : entersB Tryz.prog 120 = true := by kernel_rfl
@[go_sem] theorem f120_rs : Tryz.f120.results.toList = [.cell 8 69, .tmp 9] := by kernel_rfl
@[go_sem] theorem f120_nt : Tryz.f120.ntmps = 62 := by kernel_rfl
@[go_sem] theorem f121_en : entersB Tryz.prog 121 = true := by kernel_rfl
@[go_sem] theorem f121_rs : Tryz.f121.results.toList = [.tmp 4] := by kernel_rfl
@[go_sem] theorem f121_nt : Tryz.f121.ntmps = 42 := by kernel_rfl
@[go_sem] theorem f122_en : entersB Tryz.prog 122 = true := by kernel_rfl
@[go_sem] theorem f122_rs : Tryz.f122.results.toList = [.tmp 3] := by kernel_rfl
@[go_sem] theorem f122_nt : Tryz.f122.ntmps = 8 := by kernel_rfl
@[go_sem] theorem f123_en : entersB Tryz.prog 123 = true := by kernel_rfl
@[go_sem] theorem f123_rs : Tryz.f123.results.toList = [.tmp 6] := by kernel_rfl
@[go_sem] theorem f123_nt : Tryz.f123.ntmps = 73 := by kernel_rfl
@[go_sem] theorem f124_en : entersB Tryz.prog 124 = true := by kernel_rfl
@[go_sem] theorem f124_rs : Tryz.f124.results.toList = [.tmp 2] := by kernel_rfl
@[go_sem] theorem f124_nt : Tryz.f124.ntmps = 40 := by kernel_rfl
@[go_sem] theorem f125_en : entersB Tryz.prog 125 = true := by kernel_rfl
@[go_sem] theorem f125_rs : Tryz.f125.results.toList = [.tmp 4, .tmp 5] := by kernel_rfl
@[go_sem] theorem f125_nt : Tryz.f125.ntmps = 29 := by kernel_rfl
@[go_sem] theorem f128_en : entersB Tryz.prog 128 = true := by kernel_rfl
@[go_sem] theorem f128_rs : Tryz.f128.results.toList = [.cell 4 66, .tmp 5, .tmp 6] := by kernel_rfl
@[go_sem] theorem f128_nt : Tryz.f128.ntmps = 123 := by kernel_rfl
@[go_sem] theorem f129_en : entersB Tryz.prog 129 = true := by kernel_rfl
@[go_sem] theorem f129_rs : Tryz.f129.results.toList = [.tmp 4] := by kernel_rfl
@[go_sem] theorem f129_nt : Tryz.f129.ntmps = 15 := by kernel_rfl
@[go_sem] theorem f131_en : entersB Tryz.prog 131 = true := by kernel_rfl
@[go_sem] theorem f131_rs : Tryz.f131.results.toList = [.tmp 4] := by kernel_rfl
@[go_sem] theorem f131_nt : Tryz.f131.ntmps = 9 := by kernel_rfl
@[go_sem] theorem f133_en : entersB Tryz.prog 133 = true := by kernel_rfl
@[go_sem] theorem f133_rs : Tryz.f133.results.toList = [.tmp 2] := by kernel_rfl
@[go_sem] theorem f133_nt : Tryz.f133.ntmps = 25 := by kernel_rfl
@[go_sem] theorem f137_en : entersB Tryz.prog 137 = true := by kernel_rfl
@[go_sem] theorem f137_rs : Tryz.f137.results.toList = [.tmp 4] := by kernel_rfl
@[go_sem] theorem f137_nt : Tryz.f137.ntmps = 18 := by kernel_rfl
@[go_sem] theorem f140_en : entersB Tryz.prog 140 = true := by kernel_rfl
@[go_sem] theorem f140_rs : Tryz.f140.results.toList = [.tmp 6] := by kernel_rfl
@[go_sem] theorem f140_nt : Tryz.f140.ntmps = 15 := by kernel_rfl
@[go_sem] theorem f142_en : entersB Tryz.prog 142 = true := by kernel_rfl
@[go_sem] theorem f142_rs : Tryz.f142.results.toList = [] := by kernel_rfl
@[go_sem] theorem f142_nt : Tryz.f142.ntmps = 134 := by kernel_rfl
@[go_sem] theorem f143_en : entersB Tryz.prog 143 = true := by kernel_rfl
@[go_sem] theorem f143_rs : Tryz.f143.results.toList = [.tmp 2] := by kernel_rfl
@[go_sem] theorem f143_nt : Tryz.f143.ntmps = 8 := by kernel_rfl
@[go_sem] theorem f147_en : entersB Tryz.prog 147 = true := by kernel_rfl
@[go_sem] theorem f147_rs : Tryz.f147.results.toList = [] := by kernel_rfl
@[go_sem] theorem f147_nt : Tryz.f147.ntmps = 63 := by kernel_rfl
@[go_sem] theorem f148_en : entersB Tryz.prog 148 = true := by kernel_rfl
@[go_sem] theorem f148_rs : Tryz.f148.results.toList = [.tmp 4] := by kernel_rfl
@[go_sem] theorem f148_nt : Tryz.f148.ntmps = 8 := by kernel_rfl
@[go_sem] theorem f149_en : entersB Tryz.prog 149 = true := by kernel_rfl
@[go_sem] theorem f149_rs : Tryz.f149.results.toList = [.tmp 4] := by kernel_rfl
@[go_sem] theorem f149_nt : Tryz.f149.ntmps = 27 := by kernel_rfl
@[go_sem] theorem f150_en : entersB Tryz.prog 150 = true := by kernel_rfl
@[go_sem] theorem f150_rs : Tryz.f150.results.toList = [.tmp 2] := by kernel_rfl
@[go_sem] theorem f150_nt : Tryz.f150.ntmps = 18 := by kernel_rfl
@[go_sem] theorem f151_en : entersB Tryz.prog 151 = true := by kernel_rfl
@[go_sem] theorem f151_rs : Tryz.f151.results.toList = [.tmp 4] := by kernel_rfl
@[go_sem] theorem f151_nt : Tryz.f151.ntmps = 20 := by kernel_rfl
@[go_sem] theorem f152_en : entersB Tryz.prog 152 = true := by kernel_rfl
@[go_sem] theorem f152_rs : Tryz.f152.results.toList = [.tmp 2] := by kernel_rfl
@[go_sem] theorem f152_nt : Tryz.f152.ntmps = 9 := by kernel_rfl
@[go_sem] theorem f153_en : entersB Tryz.prog 153 = true := by kernel_rfl
@[go_sem] theorem f153_rs : Tryz.f153.results.toList = [.tmp 2] := by kernel_rfl
@[go_sem] theorem f153_nt : Tryz.f153.ntmps = 4 := by kernel_rfl
@[go_sem] theorem f154_en : entersB Tryz.prog 154 = true := by kernel_rfl
@[go_sem] theorem f154_rs : Tryz.f154.results.toList = [] := by kernel_rfl
@[go_sem] theorem f154_nt : Tryz.f154.ntmps = 33 := by kernel_rfl
@[go_sem] theorem f155_en : entersB Tryz.prog 155 = true := by kernel_rfl
@[go_sem] theorem f155_rs : Tryz.f155.results.toList = [.tmp 2] := by kernel_rfl
@[go_sem] theorem f155_nt : Tryz.f155.ntmps = 11 := by kernel_rfl
@[go_sem] theorem f156_en : entersB Tryz.prog 156 = true := by kernel_rfl
@[go_sem] theorem f156_rs : Tryz.f156.results.toList = [.tmp 2] := by kernel_rfl
@[go_sem] theorem f156_nt : Tryz.f156.ntmps = 4 := by kernel_rfl
@[go_sem] theorem f157_en : entersB Tryz.prog 157 = true := by kernel_rfl
@[go_sem] theorem f157_rs : Tryz.f157.results.toList = [.tmp 2] := by kernel_rfl
@[go_sem] theorem f157_nt : Tryz.f157.ntmps = 18 := by kernel_rfl
@[go_sem] theorem f158_en : entersB Tryz.prog 158 = true := by kernel_rfl
@[go_sem] theorem f158_rs : Tryz.f158.results.toList = [] := by kernel_rfl
@[go_sem] theorem f158_nt : Tryz.f158.ntmps = 148 := by kernel_rfl
@[go_sem] theorem f159_en : entersB Tryz.prog 159 = true := by kernel_rfl
@[go_sem] theorem f159_rs : Tryz.f159.results.toList = [] := by kernel_rfl
@[go_sem] theorem f159_nt : Tryz.f159.ntmps = 11 := by kernel_rfl
@[go_sem] theorem f160_en : entersB Tryz.prog 160 = true := by kernel_rfl
@[go_sem] theorem f160_rs : Tryz.f160.results.toList = [.tmp 2] := by kernel_rfl
@[go_sem] theorem f160_nt : Tryz.f160.ntmps = 61 := by kernel_rfl
@[go_sem] theorem f161_en : entersB Tryz.prog 161 = true := by kernel_rfl
@[go_sem] theorem f161_rs : Tryz.f161.results.toList = [.tmp 4] := by kernel_rfl
@[go_sem] theorem f161_nt : Tryz.f161.ntmps = 19 := by kernel_rfl
@[go_sem] theorem f162_en : entersB Tryz.prog 162 = true := by kernel_rfl
@[go_sem] theorem f162_rs : Tryz.f162.results.toList = [.tmp 3] := by kernel_rfl
@[go_sem] theorem f162_nt : Tryz.f162.ntmps = 8 := by kernel_rfl
@[go_sem] theorem f163_en : entersB Tryz.prog 163 = true := by kernel_rfl
@[go_sem] theorem f163_rs : Tryz.f163.results.toList = [.tmp 4] := by kernel_rfl
@[go_sem] theorem f163_nt : Tryz.f163.ntmps = 32 := by kernel_rfl
@[go_sem] theorem f164_en : entersB Tryz.prog 164 = true := by kernel_rfl
@[go_sem] theorem f164_rs : Tryz.f164.results.toList = [.tmp 3] := by kernel_rfl
@[go_sem] theorem f164_nt : Tryz.f164.ntmps = 14 := by kernel_rfl
@[go_sem] theorem f165_en : entersB Tryz.prog 165 = true := by kernel_rfl
@[go_sem] theorem f165_rs : Tryz.f165.results.toList = [.tmp 2] := by kernel_rfl
@[go_sem] theorem f165_nt : Tryz.f165.ntmps = 42 := by kernel_rfl
@[go_sem] theorem f166_en : entersB Tryz.prog 166 = true := by kernel_rfl
@[go_sem] theorem f166_rs : Tryz.f166.results.toList = [.cell 2 77] := by kernel_rfl
@[go_sem] theorem f166_nt : Tryz.f166.ntmps = 18 := by kernel_rfl
@[go_sem] theorem f168_en : entersB Tryz.prog 168 = true := by kernel_rfl
@[go_sem] theorem f168_rs : Tryz.f168.results.toList = [.tmp 4] := by kernel_rfl
@[go_sem] theorem f168_nt : Tryz.f168.ntmps = 22 := by kernel_rfl
@[go_sem] theorem f178_en : entersB Tryz.prog 178 = true := by kernel_rfl
@[go_sem] theorem f178_rs : Tryz.f178.results.toList = [.tmp 4] := by kernel_rfl
@[go_sem] theorem f178_nt : Tryz.f178.ntmps = 8 := by kernel_rfl
@[go_sem] theorem f179_en : entersB Tryz.prog 179 = true := by kernel_rfl
@[go_sem] theorem f179_rs : Tryz.f179.results.toList = [] := by kernel_rfl
@[go_sem] theorem f179_nt : Tryz.f179.ntmps = 49 := by kernel_rfl
@[go_sem] theorem f180_en : entersB Tryz.prog 180 = true := by kernel_rfl
@[go_sem] theorem f180_rs : Tryz.f180.results.toList = [] := by kernel_rfl
@[go_sem] theorem f180_nt : Tryz.f180.ntmps = 56 := by kernel_rfl
@[go_sem] theorem f181_en : entersB Tryz.prog 181 = true := by kernel_rfl
@[go_sem] theorem f181_rs : Tryz.f181.results.toList = [] := by kernel_rfl
@[go_sem] theorem f181_nt : Tryz.f181.ntmps = 65 := by kernel_rfl
@[go_sem] theorem f182_en : entersB Tryz.prog 182 = true := by kernel_rfl
@[go_sem] theorem f182_rs : Tryz.f182.results.toList = [.tmp 6, .tmp 7] := by kernel_rfl
@[go_sem] theorem f182_nt : Tryz.f182.ntmps = 57 := by kernel_rfl
@[go_sem] theorem f183_en : entersB Tryz.prog 183 = true := by kernel_rfl
@[go_sem] theorem f183_rs : Tryz.f183.results.toList = [] := by kernel_rfl
@[go_sem] theorem f183_nt : Tryz.f183.ntmps = 32 := by kernel_rfl
@[go_sem] theorem f184_en : entersB Tryz.prog 184 = true := by kernel_rfl
@[go_sem] theorem f184_rs : Tryz.f184.results.toList = [.tmp 6] := by kernel_rfl
@[go_sem] theorem f184_nt : Tryz.f184.ntmps = 133 := by kernel_rfl
@[go_sem] theorem f185_en : entersB Tryz.prog 185 = true := by kernel_rfl
@[go_sem] theorem f185_rs : Tryz.f185.results.toList = [.tmp 4] := by kernel_rfl
@[go_sem] theorem f185_nt : Tryz.f185.ntmps = 17 := by kernel_rfl
@[go_sem] theorem f186_en : entersB Tryz.prog 186 = true := by kernel_rfl
@[go_sem] theorem f186_rs : Tryz.f186.results.toList = [.tmp 8] := by kernel_rfl
@[go_sem] theorem f186_nt : Tryz.f186.ntmps = 84 := by kernel_rfl
@[go_sem] theorem f187_en : entersB Tryz.prog 187 = true := by kernel_rfl
@[go_sem] theorem f187_rs : Tryz.f187.results.toList = [.tmp 8, .tmp 9] := by kernel_rfl
@[go_sem] theorem f187_nt : Tryz.f187.ntmps = 168 := by kernel_rfl
@[go_sem] theorem f188_en : entersB Tryz.prog 188 = true := by kernel_rfl
@[go_sem] theorem f188_rs : Tryz.f188.results.toList = [.tmp 2] := by kernel_rfl
@[go_sem] theorem f188_nt : Tryz.f188.ntmps = 19 := by kernel_rfl
@[go_sem] theorem f189_en : entersB Tryz.prog 189 = true := by kernel_rfl
@[go_sem] theorem f189_rs : Tryz.f189.results.toList = [.tmp 2] := by kernel_rfl
@[go_sem] theorem f189_nt : Tryz.f189.ntmps = 25 := by kernel_rfl
@[go_sem] theorem f190_en : entersB Tryz.prog 190 = true := by kernel_rfl
@[go_sem] theorem f190_rs : Tryz.f190.results.toList = [] := by kernel_rfl
@[go_sem] theorem f190_nt : Tryz.f190.ntmps = 53 := by kernel_rfl
@[go_sem] theorem f198_en : entersB Tryz.prog 198 = true := by kernel_rfl
@[go_sem] theorem f198_rs : Tryz.f198.results.toList = [] := by kernel_rfl
@[go_sem] theorem f198_nt : Tryz.f198.ntmps = 53 := by kernel_rfl
@[go_sem] theorem f200_en : entersB Tryz.prog 200 = true := by kernel_rfl
@[go_sem] theorem f200_rs : Tryz.f200.results.toList = [.tmp 4] := by kernel_rfl
@[go_sem] theorem f200_nt : Tryz.f200.ntmps = 8 := by kernel_rfl
@[go_sem] theorem f201_en : entersB Tryz.prog 201 = true := by kernel_rfl
@[go_sem] theorem f201_rs : Tryz.f201.results.toList = [.tmp 2] := by kernel_rfl
@[go_sem] theorem f201_nt : Tryz.f201.ntmps = 6 := by kernel_rfl
@[go_sem] theorem f202_en : entersB Tryz.prog 202 = true := by kernel_rfl
@[go_sem] theorem f202_rs : Tryz.f202.results.toList = [.tmp 2] := by kernel_rfl
@[go_sem] theorem f202_nt : Tryz.f202.ntmps = 5 := by kernel_rfl
@[go_sem] theorem f203_en : entersB Tryz.prog 203 = true := by kernel_rfl
@[go_sem] theorem f203_rs : Tryz.f203.results.toList = [] := by kernel_rfl
@[go_sem] theorem f203_nt : Tryz.f203.ntmps = 14 := by kernel_rfl
@[go_sem] theorem f204_en : entersB Tryz.prog 204 = true := by kernel_rfl
@[go_sem] theorem f204_rs : Tryz.f204.results.toList = [] := by kernel_rfl
@[go_sem] theorem f204_nt : Tryz.f204.ntmps = 14 := by kernel_rfl
@[go_sem] theorem f210_en : entersB Tryz.prog 210 = true := by kernel_rfl
@[go_sem] theorem f210_rs : Tryz.f210.results.toList = [.tmp 10] := by kernel_rfl
@[go_sem] theorem f210_nt : Tryz.f210.ntmps = 90 := by kernel_rfl
@[go_sem] theorem f211_en : entersB Tryz.prog 211 = true := by kernel_rfl
@[go_sem] theorem f211_rs : Tryz.f211.results.toList = [.tmp 10, .tmp 11] := by kernel_rfl
@[go_sem] theorem f211_nt : Tryz.f211.ntmps = 178 := by kernel_rfl
@[go_sem] theorem f212_en : entersB Tryz.prog 212 = true := by kernel_rfl
@[go_sem] theorem f212_rs : Tryz.f212.results.toList = [] := by kernel_rfl
@[go_sem] theorem f212_nt : Tryz.f212.ntmps = 134 := by kernel_rfl
@[go_sem] theorem f215_en : entersB Tryz.prog 215 = true := by kernel_rfl
@[go_sem] theorem f215_rs : Tryz.f215.results.toList = [.tmp 2] := by kernel_rfl
@[go_sem] theorem f215_nt : Tryz.f215.ntmps = 33 := by kernel_rfl
@[go_sem] theorem f216_en : entersB Tryz.prog 216 = true := by kernel_rfl
@[go_sem] theorem f216_rs : Tryz.f216.results.toList = [.tmp 4] := by kernel_rfl
@[go_sem] theorem f216_nt : Tryz.f216.ntmps = 8 := by kernel_rfl
@[go_sem] theorem f217_en : entersB Tryz.prog 217 = true := by kernel_rfl
@[go_sem] theorem f217_rs : Tryz.f217.results.toList = [] := by kernel_rfl
@[go_sem] theorem f217_nt : Tryz.f217.ntmps = 76 := by kernel_rfl
@[go_sem] theorem f218_en : entersB Tryz.prog 218 = true := by kernel_rfl
@[go_sem] theorem f218_rs : Tryz.f218.results.toList = [.tmp 2] := by kernel_rfl
@[go_sem] theorem f218_nt : Tryz.f218.ntmps = 7 := by kernel_rfl
@[go_sem] theorem f219_en : entersB Tryz.prog 219 = true := by kernel_rfl
@[go_sem] theorem f219_rs : Tryz.f219.results.toList = [.tmp 2] := by kernel_rfl
@[go_sem] theorem f219_nt : Tryz.f219.ntmps = 33 := by kernel_rfl
@[go_sem] theorem f220_en : entersB Tryz.prog 220 = true := by kernel_rfl
@[go_sem] theorem f220_rs : Tryz.f220.results.toList = [.tmp 6] := by kernel_rfl
@[go_sem] theorem f220_nt : Tryz.f220.ntmps = 15 := by kernel_rfl
@[go_sem] theorem f221_en : entersB Tryz.prog 221 = true := by kernel_rfl
@[go_sem] theorem f221_rs : Tryz.f221.results.toList = [.tmp 10] := by kernel_rfl
@[go_sem] theorem f221_nt : Tryz.f221.ntmps = 36 := by kernel_rfl
@[go_sem] theorem f222_en : entersB Tryz.prog 222 = true := by kernel_rfl
@[go_sem] theorem f222_rs : Tryz.f222.results.toList = [.tmp 2] := by kernel_rfl
@[go_sem] theorem f222_nt : Tryz.f222.ntmps = 6 := by kernel_rfl
@[go_sem] theorem f228_en : entersB Tryz.prog 228 = true := by kernel_rfl
@[go_sem] theorem f228_rs : Tryz.f228.results.toList = [.tmp 4] := by kernel_rfl
@[go_sem] theorem f228_nt : Tryz.f228.ntmps = 13 := by kernel_rfl
@[go_sem] theorem f229_en : entersB Tryz.prog 229 = true := by kernel_rfl
@[go_sem] theorem f229_rs : Tryz.f229.results.toList = [] := by kernel_rfl
@[go_sem] theorem f229_nt : Tryz.f229.ntmps = 82 := by kernel_rfl
@[go_sem] theorem f232_en : entersB Tryz.prog 232 = true := by kernel_rfl
@[go_sem] theorem f232_rs : Tryz.f232.results.toList = [] := by kernel_rfl
@[go_sem] theorem f232_nt : Tryz.f232.ntmps = 49 := by kernel_rfl
@[go_sem] theorem f233_en : entersB Tryz.prog 233 = true := by kernel_rfl
@[go_sem] theorem f233_rs : Tryz.f233.results.toList = [] := by kernel_rfl
@[go_sem] theorem f233_nt : Tryz.f233.ntmps = 56 := by kernel_rfl
@[go_sem] theorem f234_en : entersB Tryz.prog 234 = true := by kernel_rfl
@[go_sem] theorem f234_rs : Tryz.f234.results.toList = [] := by kernel_rfl
@[go_sem] theorem f234_nt : Tryz.f234.ntmps = 65 := by kernel_rfl
@[go_sem] theorem f235_en : entersB Tryz.prog 235 = true := by kernel_rfl
@[go_sem] theorem f235_rs : Tryz.f235.results.toList = [.tmp 6, .tmp 7] := by kernel_rfl
@[go_sem] theorem f235_nt : Tryz.f235.ntmps = 57 := by kernel_rfl
@[go_sem] theorem f236_en : entersB Tryz.prog 236 = true := by kernel_rfl
@[go_sem] theorem f236_rs : Tryz.f236.results.toList = [] := by kernel_rfl
@[go_sem] theorem f236_nt : Tryz.f236.ntmps = 32 := by kernel_rfl
@[go_sem] theorem f237_en : entersB Tryz.prog 237 = true := by kernel_rfl
@[go_sem] theorem f237_rs : Tryz.f237.results.toList = [.tmp 6] := by kernel_rfl
@[go_sem] theorem f237_nt : Tryz.f237.ntmps = 133 := by kernel_rfl
@[go_sem] theorem f238_en : entersB Tryz.prog 238 = true := by kernel_rfl
@[go_sem] theorem f238_rs : Tryz.f238.results.toList = [.tmp 4] := by kernel_rfl
@[go_sem] theorem f238_nt : Tryz.f238.ntmps = 17 := by kernel_rfl
@[go_sem] theorem f239_en : entersB Tryz.prog 239 = true := by kernel_rfl
@[go_sem] theorem f239_rs : Tryz.f239.results.toList = [.tmp 8] := by kernel_rfl
@[go_sem] theorem f239_nt : Tryz.f239.ntmps = 84 := by kernel_rfl
@[go_sem] theorem f240_en : entersB Tryz.prog 240 = true := by kernel_rfl
@[go_sem] theorem f240_rs : Tryz.f240.results.toList = [.tmp 8, .tmp 9] := by kernel_rfl
@[go_sem] theorem f240_nt : Tryz.f240.ntmps = 168 := by kernel_rfl
@[go_sem] theorem f243_en : entersB Tryz.prog 243 = true := by kernel_rfl
@[go_sem] theorem f243_rs : Tryz.f243.results.toList = [.tmp 8, .tmp 9] := by kernel_rfl
@[go_sem] theorem f243_nt : Tryz.f243.ntmps = 28 := by kernel_rfl
@[go_sem] theorem f247_en : entersB Tryz.prog 247 = true := by kernel_rfl
@[go_sem] theorem f247_rs : Tryz.f247.results.toList = [] := by kernel_rfl
@[go_sem] theorem f247_nt : Tryz.f247.ntmps = 76 := by kernel_rfl
@[go_sem] theorem f248_en : entersB Tryz.prog 248 = true := by kernel_rfl
@[go_sem] theorem f248_rs : Tryz.f248.results.toList = [.tmp 6] := by kernel_rfl
@[go_sem] theorem f248_nt : Tryz.f248.ntmps = 15 := by kernel_rfl
@[go_sem] theorem f249_en : entersB Tryz.prog 249 = true := by kernel_rfl
@[go_sem] theorem f249_rs : Tryz.f249.results.toList = [.tmp 10] := by kernel_rfl
@[go_sem] theorem f249_nt : Tryz.f249.ntmps = 36 := by kernel_rfl
@[go_sem] theorem f250_en : entersB Tryz.prog 250 = true := by kernel_rfl
@[go_sem] theorem f250_rs : Tryz.f250.results.toList = [.tmp 8, .tmp 9] := by kernel_rfl
@[go_sem] theorem f250_nt : Tryz.f250.ntmps = 28 := by kernel_rfl
@[go_sem] theorem f0_en : entersB Tryz.prog 0 = false := by kernel_rfl
@[go_sem] theorem f1_en : entersB Tryz.prog 1 = false := by kernel_rfl
@[go_sem] theorem f254_en : entersB Tryz.prog 254 = false := by kernel_rfl
@[go_sem] theorem f255_en : entersB Tryz.prog 255 = false := by kernel_rfl
@[go_sem] theorem f257_en : entersB Tryz.prog 257 = false := by kernel_rfl
@[go_sem] theorem f258_en : entersB Tryz.prog 258 = false := by kernel_rfl
end Go.Proofs.YtgcjenfdndhhpaaGreat
