/- Facts on the types. No condition. -/
import Derived.Test.YtnodfnjmhcjnfaaGreatDoorProg
import Derived.KernelRfl
import Derived.Test.YtnodfnjmhcjnfaaGreatDoorHCoreC
namespace Go.Proofs.YtnodfnjmhcjnfaaGreatDoor
open Go Go.RowKit
@[go_sem] theorem t3_ag : aggT Tryz.prog 3 = false := by kernel_rfl
@[go_sem] theorem t3_sz : szT Tryz.prog 3 = 1 := by kernel_rfl
@[go_sem] theorem t3_in : (Tryz.prog.info? 3).isSome = true := by kernel_rfl
@[go_sem] theorem t3_un : (Tryz.prog.underlying 3).isSome = true := by kernel_rfl
@[go_sem] theorem t3_ze : zeroT Tryz.prog 3 = some [.int .i64 0] := by kernel_rfl
@[go_sem] theorem t4_ag : aggT Tryz.prog 4 = false := by kernel_rfl
@[go_sem] theorem t4_sz : szT Tryz.prog 4 = 1 := by kernel_rfl
@[go_sem] theorem t4_in : (Tryz.prog.info? 4).isSome = true := by kernel_rfl
@[go_sem] theorem t4_un : (Tryz.prog.underlying 4).isSome = true := by kernel_rfl
@[go_sem] theorem t4_ze : zeroT Tryz.prog 4 = some [.bool false] := by kernel_rfl
@[go_sem] theorem t4_by : Tryz.prog.bytesOf 4 = 1 := by kernel_rfl
@[go_sem] theorem t5_ag : aggT Tryz.prog 5 = false := by kernel_rfl
@[go_sem] theorem t5_sz : szT Tryz.prog 5 = 1 := by kernel_rfl
@[go_sem] theorem t5_in : (Tryz.prog.info? 5).isSome = true := by kernel_rfl
@[go_sem] theorem t5_un : (Tryz.prog.underlying 5).isSome = true := by kernel_rfl
@[go_sem] theorem t5_ze : zeroT Tryz.prog 5 = some [.int .u8 0] := by kernel_rfl
@[go_sem] theorem t5_by : Tryz.prog.bytesOf 5 = 1 := by kernel_rfl
@[go_sem] theorem t9_ag : aggT Tryz.prog 9 = false := by kernel_rfl
@[go_sem] theorem t9_sz : szT Tryz.prog 9 = 1 := by kernel_rfl
@[go_sem] theorem t9_in : (Tryz.prog.info? 9).isSome = true := by kernel_rfl
@[go_sem] theorem t22_ag : aggT Tryz.prog 22 = false := by kernel_rfl
@[go_sem] theorem t22_sz : szT Tryz.prog 22 = 1 := by kernel_rfl
@[go_sem] theorem t22_in : (Tryz.prog.info? 22).isSome = true := by kernel_rfl
@[go_sem] theorem t22_un : (Tryz.prog.underlying 22).isSome = true := by kernel_rfl
@[go_sem] theorem t25_ze : zeroT Tryz.prog 25 = some [.sl none 0, .int .i64 0] := by kernel_rfl
@[go_sem] theorem t25_fo : fieldsOk Tryz.prog 25 = true := by kernel_rfl
@[go_sem] theorem t26_ag : aggT Tryz.prog 26 = false := by kernel_rfl
@[go_sem] theorem t26_sz : szT Tryz.prog 26 = 1 := by kernel_rfl
@[go_sem] theorem t26_in : (Tryz.prog.info? 26).isSome = true := by kernel_rfl
@[go_sem] theorem t26_un : (Tryz.prog.underlying 26).isSome = true := by kernel_rfl
@[go_sem] theorem t29_ag : aggT Tryz.prog 29 = false := by kernel_rfl
@[go_sem] theorem t29_sz : szT Tryz.prog 29 = 1 := by kernel_rfl
@[go_sem] theorem t29_in : (Tryz.prog.info? 29).isSome = true := by kernel_rfl
@[go_sem] theorem t29_un : (Tryz.prog.underlying 29).isSome = true := by kernel_rfl
@[go_sem] theorem t29_ze : zeroT Tryz.prog 29 = some [.int .i64 0] := by kernel_rfl
@[go_sem] theorem t38_ag : aggT Tryz.prog 38 = true := by kernel_rfl
@[go_sem] theorem t38_sz : szT Tryz.prog 38 = 3 := by kernel_rfl
@[go_sem] theorem t38_in : (Tryz.prog.info? 38).isSome = true := by kernel_rfl
@[go_sem] theorem t38_un : (Tryz.prog.underlying 38).isSome = true := by kernel_rfl
@[go_sem] theorem t38_ze : zeroT Tryz.prog 38 = some [.int .i64 0, .int .i64 0, .int .i64 0] := by kernel_rfl
@[go_sem] theorem t38_fo : fieldsOk Tryz.prog 38 = true := by kernel_rfl
@[go_sem] theorem t45_ag : aggT Tryz.prog 45 = true := by kernel_rfl
@[go_sem] theorem t45_sz : szT Tryz.prog 45 = 2 := by kernel_rfl
@[go_sem] theorem t45_in : (Tryz.prog.info? 45).isSome = true := by kernel_rfl
@[go_sem] theorem t45_un : (Tryz.prog.underlying 45).isSome = true := by kernel_rfl
@[go_sem] theorem t45_ze : zeroT Tryz.prog 45 = some [.int .i64 0, .int .i64 0] := by kernel_rfl
@[go_sem] theorem t45_fo : fieldsOk Tryz.prog 45 = true := by kernel_rfl
@[go_sem] theorem t64_ag : aggT Tryz.prog 64 = false := by kernel_rfl
@[go_sem] theorem t64_sz : szT Tryz.prog 64 = 1 := by kernel_rfl
@[go_sem] theorem t64_in : (Tryz.prog.info? 64).isSome = true := by kernel_rfl
@[go_sem] theorem t64_un : (Tryz.prog.underlying 64).isSome = true := by kernel_rfl
@[go_sem] theorem t64_ze : zeroT Tryz.prog 64 = some [.sl none 0] := by kernel_rfl
@[go_sem] theorem t88_ag : aggT Tryz.prog 88 = true := by kernel_rfl
@[go_sem] theorem t88_sz : szT Tryz.prog 88 = 7 := by kernel_rfl
@[go_sem] theorem t88_in : (Tryz.prog.info? 88).isSome = true := by kernel_rfl
@[go_sem] theorem t88_un : (Tryz.prog.underlying 88).isSome = true := by kernel_rfl
@[go_sem] theorem t88_ze : zeroT Tryz.prog 88 = some [.int .i64 0, .int .i64 0, .int .i64 0, .str ⟨#[]⟩, .int .i64 0, .int .i64 0, .int .i64 0] := by kernel_rfl
@[go_sem] theorem t88_fo : fieldsOk Tryz.prog 88 = true := by kernel_rfl
@[go_sem] theorem t90_ag : aggT Tryz.prog 90 = false := by kernel_rfl
@[go_sem] theorem t90_sz : szT Tryz.prog 90 = 1 := by kernel_rfl
@[go_sem] theorem t90_in : (Tryz.prog.info? 90).isSome = true := by kernel_rfl
@[go_sem] theorem t90_un : (Tryz.prog.underlying 90).isSome = true := by kernel_rfl
@[go_sem] theorem t95_ag : aggT Tryz.prog 95 = true := by kernel_rfl
@[go_sem] theorem t95_sz : szT Tryz.prog 95 = 5 := by kernel_rfl
@[go_sem] theorem t95_in : (Tryz.prog.info? 95).isSome = true := by kernel_rfl
@[go_sem] theorem t95_un : (Tryz.prog.underlying 95).isSome = true := by kernel_rfl
@[go_sem] theorem t95_ze : zeroT Tryz.prog 95 = some [.int .i64 0, .str ⟨#[]⟩, .int .i64 0, .int .i64 0, .int .i64 0] := by kernel_rfl
@[go_sem] theorem t95_fo : fieldsOk Tryz.prog 95 = true := by kernel_rfl
@[go_sem] theorem t97_ag : aggT Tryz.prog 97 = true := by kernel_rfl
@[go_sem] theorem t97_sz : szT Tryz.prog 97 = 7 := by kernel_rfl
@[go_sem] theorem t97_in : (Tryz.prog.info? 97).isSome = true := by kernel_rfl
@[go_sem] theorem t97_un : (Tryz.prog.underlying 97).isSome = true := by kernel_rfl
@[go_sem] theorem t97_ze : zeroT Tryz.prog 97 = some [.str ⟨#[]⟩, .int .i64 0, .int .i64 0, .str ⟨#[]⟩, .int .i64 0, .int .i64 0, .int .i64 0] := by kernel_rfl
@[go_sem] theorem t97_fo : fieldsOk Tryz.prog 97 = true := by kernel_rfl
@[go_sem] theorem t106_ag : aggT Tryz.prog 106 = true := by kernel_rfl
@[go_sem] theorem t106_sz : szT Tryz.prog 106 = 7 := by kernel_rfl
@[go_sem] theorem t106_in : (Tryz.prog.info? 106).isSome = true := by kernel_rfl
@[go_sem] theorem t106_un : (Tryz.prog.underlying 106).isSome = true := by kernel_rfl
@[go_sem] theorem t106_ze : zeroT Tryz.prog 106 = some [.int .i64 0, .int .i64 0, .str ⟨#[]⟩, .int .i64 0, .int .i64 0, .int .i64 0, .bool false] := by kernel_rfl
@[go_sem] theorem t106_fo : fieldsOk Tryz.prog 106 = true := by kernel_rfl
@[go_sem] theorem t160_ag : aggT Tryz.prog 160 = false := by kernel_rfl
@[go_sem] theorem t160_sz : szT Tryz.prog 160 = 1 := by kernel_rfl
@[go_sem] theorem t160_in : (Tryz.prog.info? 160).isSome = true := by kernel_rfl
@[go_sem] theorem t160_un : (Tryz.prog.underlying 160).isSome = true := by kernel_rfl
@[go_sem] theorem t177_ag : aggT Tryz.prog 177 = false := by kernel_rfl
@[go_sem] theorem t177_sz : szT Tryz.prog 177 = 1 := by kernel_rfl
@[go_sem] theorem t177_in : (Tryz.prog.info? 177).isSome = true := by kernel_rfl
@[go_sem] theorem t177_un : (Tryz.prog.underlying 177).isSome = true := by kernel_rfl
@[go_sem] theorem t178_ag : aggT Tryz.prog 178 = false := by kernel_rfl
@[go_sem] theorem t178_sz : szT Tryz.prog 178 = 1 := by kernel_rfl
@[go_sem] theorem t178_in : (Tryz.prog.info? 178).isSome = true := by kernel_rfl
@[go_sem] theorem t178_un : (Tryz.prog.underlying 178).isSome = true := by kernel_rfl
@[go_sem] theorem t180_ze : zeroT Tryz.prog 180 = some [.sl none 0, .int .i64 0, .sl none 0, .map none] := by kernel_rfl
@[go_sem] theorem t180_fo : fieldsOk Tryz.prog 180 = true := by kernel_rfl
@[go_sem] theorem t197_ag : aggT Tryz.prog 197 = false := by kernel_rfl
@[go_sem] theorem t197_sz : szT Tryz.prog 197 = 1 := by kernel_rfl
@[go_sem] theorem t197_in : (Tryz.prog.info? 197).isSome = true := by kernel_rfl
@[go_sem] theorem t197_un : (Tryz.prog.underlying 197).isSome = true := by kernel_rfl
@[go_sem] theorem t198_ag : aggT Tryz.prog 198 = false := by kernel_rfl
@[go_sem] theorem t198_sz : szT Tryz.prog 198 = 1 := by kernel_rfl
@[go_sem] theorem t198_in : (Tryz.prog.info? 198).isSome = true := by kernel_rfl
@[go_sem] theorem t198_un : (Tryz.prog.underlying 198).isSome = true := by kernel_rfl
@[go_sem] theorem t200_ze : zeroT Tryz.prog 200 = some [.int .i64 0, .int .i64 0, .int .i64 0, .sl none 0, .map none, .int .i64 0, .sl none 0, .sl none 0, .sl none 0, .sl none 0, .int .i64 0] := by kernel_rfl
@[go_sem] theorem t200_fo : fieldsOk Tryz.prog 200 = true := by kernel_rfl
@[go_sem] theorem t207_ag : aggT Tryz.prog 207 = false := by kernel_rfl
@[go_sem] theorem t207_sz : szT Tryz.prog 207 = 1 := by kernel_rfl
@[go_sem] theorem t207_in : (Tryz.prog.info? 207).isSome = true := by kernel_rfl
@[go_sem] theorem t207_un : (Tryz.prog.underlying 207).isSome = true := by kernel_rfl
@[go_sem] theorem t209_ag : aggT Tryz.prog 209 = true := by kernel_rfl
@[go_sem] theorem t209_sz : szT Tryz.prog 209 = 2 := by kernel_rfl
@[go_sem] theorem t209_in : (Tryz.prog.info? 209).isSome = true := by kernel_rfl
@[go_sem] theorem t209_un : (Tryz.prog.underlying 209).isSome = true := by kernel_rfl
@[go_sem] theorem t209_ze : zeroT Tryz.prog 209 = some [.str ⟨#[]⟩, .sl none 0] := by kernel_rfl
@[go_sem] theorem t215_ag : aggT Tryz.prog 215 = true := by kernel_rfl
@[go_sem] theorem t215_sz : szT Tryz.prog 215 = 8 := by kernel_rfl
@[go_sem] theorem t215_in : (Tryz.prog.info? 215).isSome = true := by kernel_rfl
@[go_sem] theorem t215_un : (Tryz.prog.underlying 215).isSome = true := by kernel_rfl
@[go_sem] theorem t215_ze : zeroT Tryz.prog 215 = some [.int .i64 0, .int .i64 0, .str ⟨#[]⟩, .int .i64 0, .int .i64 0, .int .i64 0, .bool false, .sl none 0] := by kernel_rfl
@[go_sem] theorem t215_fo : fieldsOk Tryz.prog 215 = true := by kernel_rfl
@[go_sem] theorem t291_ag : aggT Tryz.prog 291 = true := by kernel_rfl
@[go_sem] theorem t291_sz : szT Tryz.prog 291 = 6 := by kernel_rfl
@[go_sem] theorem t291_in : (Tryz.prog.info? 291).isSome = true := by kernel_rfl
@[go_sem] theorem t291_un : (Tryz.prog.underlying 291).isSome = true := by kernel_rfl
@[go_sem] theorem t291_ze : zeroT Tryz.prog 291 = some [.int .i64 0, .str ⟨#[]⟩, .int .i64 0, .int .i64 0, .int .i64 0, .bool false] := by kernel_rfl
@[go_sem] theorem t291_fo : fieldsOk Tryz.prog 291 = true := by kernel_rfl
@[go_sem] theorem t298_ag : aggT Tryz.prog 298 = true := by kernel_rfl
@[go_sem] theorem t298_sz : szT Tryz.prog 298 = 2 := by kernel_rfl
@[go_sem] theorem t298_in : (Tryz.prog.info? 298).isSome = true := by kernel_rfl
@[go_sem] theorem t298_un : (Tryz.prog.underlying 298).isSome = true := by kernel_rfl
@[go_sem] theorem t298_ze : zeroT Tryz.prog 298 = some [.str ⟨#[]⟩, .int .i64 0] := by kernel_rfl
@[go_sem] theorem t298_fo : fieldsOk Tryz.prog 298 = true := by kernel_rfl
@[go_sem] theorem t301_ag : aggT Tryz.prog 301 = true := by kernel_rfl
@[go_sem] theorem t301_sz : szT Tryz.prog 301 = 2 := by kernel_rfl
@[go_sem] theorem t301_in : (Tryz.prog.info? 301).isSome = true := by kernel_rfl
@[go_sem] theorem t301_un : (Tryz.prog.underlying 301).isSome = true := by kernel_rfl
@[go_sem] theorem t301_ze : zeroT Tryz.prog 301 = some [.int .i64 0, .int .i64 0] := by kernel_rfl
@[go_sem] theorem t317_un : (Tryz.prog.underlying 317).isSome = true := by kernel_rfl
@[go_sem] theorem t350_ze : zeroT Tryz.prog 350 = some [.sl none 0, .int .i64 0, .bool false] := by kernel_rfl
@[go_sem] theorem t350_fo : fieldsOk Tryz.prog 350 = true := by kernel_rfl
@[go_sem] theorem t25_f0 : fieldT Tryz.prog 25 0 = some (0, 1) := by kernel_rfl
@[go_sem] theorem t25_f1 : fieldT Tryz.prog 25 1 = some (1, 1) := by kernel_rfl
@[go_sem] theorem t38_f0 : fieldT Tryz.prog 38 0 = some (0, 1) := by kernel_rfl
@[go_sem] theorem t38_f1 : fieldT Tryz.prog 38 1 = some (1, 1) := by kernel_rfl
@[go_sem] theorem t38_f2 : fieldT Tryz.prog 38 2 = some (2, 1) := by kernel_rfl
@[go_sem] theorem t45_f0 : fieldT Tryz.prog 45 0 = some (0, 1) := by kernel_rfl
@[go_sem] theorem t45_f1 : fieldT Tryz.prog 45 1 = some (1, 1) := by kernel_rfl
@[go_sem] theorem t88_f0 : fieldT Tryz.prog 88 0 = some (0, 1) := by kernel_rfl
@[go_sem] theorem t88_f1 : fieldT Tryz.prog 88 1 = some (1, 1) := by kernel_rfl
@[go_sem] theorem t88_f2 : fieldT Tryz.prog 88 2 = some (2, 1) := by kernel_rfl
@[go_sem] theorem t88_f3 : fieldT Tryz.prog 88 3 = some (3, 1) := by kernel_rfl
@[go_sem] theorem t88_f4 : fieldT Tryz.prog 88 4 = some (4, 3) := by kernel_rfl
@[go_sem] theorem t95_f0 : fieldT Tryz.prog 95 0 = some (0, 1) := by kernel_rfl
@[go_sem] theorem t95_f1 : fieldT Tryz.prog 95 1 = some (1, 1) := by kernel_rfl
@[go_sem] theorem t95_f2 : fieldT Tryz.prog 95 2 = some (2, 3) := by kernel_rfl
@[go_sem] theorem t97_f0 : fieldT Tryz.prog 97 0 = some (0, 1) := by kernel_rfl
@[go_sem] theorem t97_f1 : fieldT Tryz.prog 97 1 = some (1, 1) := by kernel_rfl
@[go_sem] theorem t97_f2 : fieldT Tryz.prog 97 2 = some (2, 5) := by kernel_rfl
@[go_sem] theorem t106_f0 : fieldT Tryz.prog 106 0 = some (0, 1) := by kernel_rfl
@[go_sem] theorem t106_f1 : fieldT Tryz.prog 106 1 = some (1, 1) := by kernel_rfl
@[go_sem] theorem t106_f2 : fieldT Tryz.prog 106 2 = some (2, 1) := by kernel_rfl
@[go_sem] theorem t106_f3 : fieldT Tryz.prog 106 3 = some (3, 1) := by kernel_rfl
@[go_sem] theorem t106_f4 : fieldT Tryz.prog 106 4 = some (4, 1) := by kernel_rfl
@[go_sem] theorem t106_f5 : fieldT Tryz.prog 106 5 = some (5, 1) := by kernel_rfl
@[go_sem] theorem t106_f6 : fieldT Tryz.prog 106 6 = some (6, 1) := by kernel_rfl
@[go_sem] theorem t180_f0 : fieldT Tryz.prog 180 0 = some (0, 1) := by kernel_rfl
@[go_sem] theorem t180_f1 : fieldT Tryz.prog 180 1 = some (1, 1) := by kernel_rfl
@[go_sem] theorem t180_f2 : fieldT Tryz.prog 180 2 = some (2, 1) := by kernel_rfl
@[go_sem] theorem t180_f3 : fieldT Tryz.prog 180 3 = some (3, 1) := by kernel_rfl
@[go_sem] theorem t200_f0 : fieldT Tryz.prog 200 0 = some (0, 1) := by kernel_rfl
@[go_sem] theorem t200_f1 : fieldT Tryz.prog 200 1 = some (1, 1) := by kernel_rfl
@[go_sem] theorem t200_f2 : fieldT Tryz.prog 200 2 = some (2, 1) := by kernel_rfl
@[go_sem] theorem t200_f3 : fieldT Tryz.prog 200 3 = some (3, 1) := by kernel_rfl
@[go_sem] theorem t200_f4 : fieldT Tryz.prog 200 4 = some (4, 1) := by kernel_rfl
@[go_sem] theorem t200_f5 : fieldT Tryz.prog 200 5 = some (5, 1) := by kernel_rfl
@[go_sem] theorem t200_f6 : fieldT Tryz.prog 200 6 = some (6, 1) := by kernel_rfl
@[go_sem] theorem t200_f7 : fieldT Tryz.prog 200 7 = some (7, 1) := by kernel_rfl
@[go_sem] theorem t200_f8 : fieldT Tryz.prog 200 8 = some (8, 1) := by kernel_rfl
@[go_sem] theorem t200_f9 : fieldT Tryz.prog 200 9 = some (9, 1) := by kernel_rfl
@[go_sem] theorem t200_f10 : fieldT Tryz.prog 200 10 = some (10, 1) := by kernel_rfl
@[go_sem] theorem t209_f0 : fieldT Tryz.prog 209 0 = some (0, 1) := by kernel_rfl
@[go_sem] theorem t209_f1 : fieldT Tryz.prog 209 1 = some (1, 1) := by kernel_rfl
@[go_sem] theorem t215_f0 : fieldT Tryz.prog 215 0 = some (0, 7) := by kernel_rfl
@[go_sem] theorem t215_f1 : fieldT Tryz.prog 215 1 = some (7, 1) := by kernel_rfl
@[go_sem] theorem t291_f0 : fieldT Tryz.prog 291 0 = some (0, 5) := by kernel_rfl
@[go_sem] theorem t291_f1 : fieldT Tryz.prog 291 1 = some (5, 1) := by kernel_rfl
@[go_sem] theorem t298_f0 : fieldT Tryz.prog 298 0 = some (0, 1) := by kernel_rfl
@[go_sem] theorem t298_f1 : fieldT Tryz.prog 298 1 = some (1, 1) := by kernel_rfl
@[go_sem] theorem t301_f0 : fieldT Tryz.prog 301 0 = some (0, 1) := by kernel_rfl
@[go_sem] theorem t301_f1 : fieldT Tryz.prog 301 1 = some (1, 1) := by kernel_rfl
@[go_sem] theorem t350_f0 : fieldT Tryz.prog 350 0 = some (0, 1) := by kernel_rfl
@[go_sem] theorem t350_f1 : fieldT Tryz.prog 350 1 = some (1, 1) := by kernel_rfl
@[go_sem] theorem t350_f2 : fieldT Tryz.prog 350 2 = some (2, 1) := by kernel_rfl
@[go_sem] theorem t9_st : strT Tryz.prog 9 = true := by kernel_rfl
@[go_sem] theorem t9_us : Tryz.prog.underlying 9 = some .string := by kernel_rfl
@[go_sem] theorem t22_el : elemT Tryz.prog 22 = some 3 := by kernel_rfl
@[go_sem] theorem t26_el : elemT Tryz.prog 26 = some 38 := by kernel_rfl
@[go_sem] theorem t26_st : strT Tryz.prog 26 = false := by kernel_rfl
@[go_sem] theorem t64_el : elemT Tryz.prog 64 = some 5 := by kernel_rfl
@[go_sem] theorem t64_st : strT Tryz.prog 64 = false := by kernel_rfl
@[go_sem] theorem t86_el : elemT Tryz.prog 86 = some 88 := by kernel_rfl
@[go_sem] theorem t90_el : elemT Tryz.prog 90 = some 95 := by kernel_rfl
@[go_sem] theorem t93_el : elemT Tryz.prog 93 = some 97 := by kernel_rfl
@[go_sem] theorem t160_el : elemT Tryz.prog 160 = some 29 := by kernel_rfl
@[go_sem] theorem t177_el : elemT Tryz.prog 177 = some 215 := by kernel_rfl
@[go_sem] theorem t197_el : elemT Tryz.prog 197 = some 291 := by kernel_rfl
@[go_sem] theorem t197_st : strT Tryz.prog 197 = false := by kernel_rfl
@[go_sem] theorem t203_el : elemT Tryz.prog 203 = some 209 := by kernel_rfl
@[go_sem] theorem t207_el : elemT Tryz.prog 207 = some 301 := by kernel_rfl
@[go_sem] theorem t210_el : elemT Tryz.prog 210 = some 4 := by kernel_rfl
@[go_sem] theorem t275_el : elemT Tryz.prog 275 = some 64 := by kernel_rfl
@[go_sem] theorem t3_ik : intK Tryz.prog 3 = some .i64 := by kernel_rfl
@[go_sem] theorem t5_ik : intK Tryz.prog 5 = some .u8 := by kernel_rfl
@[go_sem] theorem t9_ik : intK Tryz.prog 9 = none := by kernel_rfl
@[go_sem] theorem t219_un : (Tryz.prog.underlying 219).isSome = true := by kernel_rfl
@[go_sem] theorem t219_ik : intK Tryz.prog 219 = some .u64 := by kernel_rfl
@[go_sem] theorem t3_bt : bytesT Tryz.prog 3 = false := by kernel_rfl
@[go_sem] theorem t5_bt : bytesT Tryz.prog 5 = false := by kernel_rfl
@[go_sem] theorem t9_bt : bytesT Tryz.prog 9 = false := by kernel_rfl
@[go_sem] theorem t64_bt : bytesT Tryz.prog 64 = true := by kernel_rfl
@[go_sem] theorem t219_bt : bytesT Tryz.prog 219 = false := by kernel_rfl
@[go_sem] theorem t317_bt : bytesT Tryz.prog 317 = false := by kernel_rfl
@[go_sem] theorem t38_fk : fieldsK Tryz.prog 38 = some [(0, 1), (1, 1), (2, 1)] := by kernel_rfl
@[go_sem] theorem t88_fk : fieldsK Tryz.prog 88 = some [(0, 1), (1, 1), (2, 1), (3, 3), (4, 1), (5, 1), (6, 1)] := by kernel_rfl
@[go_sem] theorem t95_fk : fieldsK Tryz.prog 95 = some [(0, 1), (1, 3), (2, 1), (3, 1), (4, 1)] := by kernel_rfl
@[go_sem] theorem f7_rs : Tryz.f7.results.toList = [.tmp 2] := by kernel_rfl
@[go_sem] theorem f7_nt : Tryz.f7.ntmps = 120 := by kernel_rfl
@[go_sem] theorem f18_en : entersB Tryz.prog 18 = true := by kernel_rfl
@[go_sem] theorem f18_rs : Tryz.f18.results.toList = [.tmp 4] := by kernel_rfl
@[go_sem] theorem f18_nt : Tryz.f18.ntmps = 26 := by kernel_rfl
@[go_sem] theorem f38_en : entersB Tryz.prog 38 = true := by kernel_rfl
@[go_sem] theorem f38_rs : Tryz.f38.results.toList = [.tmp 6, .tmp 7] := by kernel_rfl
@[go_sem] theorem f38_nt : Tryz.f38.ntmps = 71 := by kernel_rfl
@[go_sem] theorem f39_en : entersB Tryz.prog 39 = true := by kernel_rfl
@[go_sem] theorem f39_rs : Tryz.f39.results.toList = [.tmp 6] := by kernel_rfl
@[go_sem] theorem f39_nt : Tryz.f39.ntmps = 19 := by kernel_rfl
@[go_sem] theorem f41_en : entersB Tryz.prog 41 = true := by kernel_rfl
@[go_sem] theorem f41_rs : Tryz.f41.results.toList = [.tmp 6, .tmp 7] := by kernel_rfl
@[go_sem] theorem f41_nt : Tryz.f41.ntmps = 33 := by kernel_rfl
@[go_sem] theorem f44_en : entersB Tryz.prog 44 = true := by kernel_rfl
@[go_sem] theorem f54_en : entersB Tryz.prog 54 = true := by kernel_rfl
@[go_sem] theorem f54_rs : Tryz.f54.results.toList = [.tmp 4] := by kernel_rfl
@[go_sem] theorem f54_nt : Tryz.f54.ntmps = 39 := by kernel_rfl
@[go_sem] theorem f55_en : entersB Tryz.prog 55 = true := by kernel_rfl
@[go_sem] theorem f55_rs : Tryz.f55.results.toList = [.tmp 4] := by kernel_rfl
@[go_sem] theorem f55_nt : Tryz.f55.ntmps = 9 := by kernel_rfl
@[go_sem] theorem f56_en : entersB Tryz.prog 56 = true := by kernel_rfl
@[go_sem] theorem f56_rs : Tryz.f56.results.toList = [.tmp 6, .tmp 7] := by kernel_rfl
@[go_sem] theorem f56_nt : Tryz.f56.ntmps = 23 := by kernel_rfl
@[go_sem] theorem f57_en : entersB Tryz.prog 57 = true := by kernel_rfl
@[go_sem] theorem f57_rs : Tryz.f57.results.toList = [.tmp 6, .tmp 7, .tmp 8] := by kernel_rfl
@[go_sem] theorem f57_nt : Tryz.f57.ntmps = 98 := by kernel_rfl
@[go_sem] theorem f65_en : entersB Tryz.prog 65 = true := by kernel_rfl
@[go_sem] theorem f65_rs : Tryz.f65.results.toList = [] := by kernel_rfl
@[go_sem] theorem f65_nt : Tryz.f65.ntmps = 14 := by kernel_rfl
@[go_sem] theorem f69_en : entersB Tryz.prog 69 = true := by kernel_rfl
@[go_sem] theorem f69_rs : Tryz.f69.results.toList = [.tmp 2] := by kernel_rfl
@[go_sem] theorem f69_nt : Tryz.f69.ntmps = 35 := by kernel_rfl
@[go_sem] theorem f77_en : entersB Tryz.prog 77 = true := by kernel_rfl
@[go_sem] theorem f77_rs : Tryz.f77.results.toList = [.tmp 4] := by kernel_rfl
@[go_sem] theorem f77_nt : Tryz.f77.ntmps = 64 := by kernel_rfl
@[go_sem] theorem f78_en : entersB Tryz.prog 78 = true := by kernel_rfl
@[go_sem] theorem f78_rs : Tryz.f78.results.toList = [.tmp 4] := by kernel_rfl
@[go_sem] theorem f78_nt : Tryz.f78.ntmps = 12 := by kernel_rfl
@[go_sem] theorem f99_en : entersB Tryz.prog 99 = true := by kernel_rfl
@[go_sem] theorem f99_rs : Tryz.f99.results.toList = [.tmp 2] := by kernel_rfl
@[go_sem] theorem f99_nt : Tryz.f99.ntmps = 6 := by kernel_rfl
@[go_sem] theorem f106_en : entersB Tryz.prog 106 = true := by kernel_rfl
@[go_sem] theorem f106_rs : Tryz.f106.results.toList = [.tmp 2] := by kernel_rfl
@[go_sem] theorem f106_nt : Tryz.f106.ntmps = 15 := by kernel_rfl
@[go_sem] theorem f111_en : entersB Tryz.prog 111 = true := by kernel_rfl
@[go_sem] theorem f111_rs : Tryz.f111.results.toList = [.tmp 4] := by kernel_rfl
@[go_sem] theorem f111_nt : Tryz.f111.ntmps = 15 := by kernel_rfl
@[go_sem] theorem f123_en : entersB Tryz.prog 123 = true := by kernel_rfl
@[go_sem] theorem f123_rs : Tryz.f123.results.toList = [.tmp 4, .tmp 5] := by kernel_rfl
@[go_sem] theorem f123_nt : Tryz.f123.ntmps = 22 := by kernel_rfl
@[go_sem] theorem f124_en : entersB Tryz.prog 124 = true := by kernel_rfl
@[go_sem] theorem f124_rs : Tryz.f124.results.toList = [.tmp 2] := by kernel_rfl
@[go_sem] theorem f124_nt : Tryz.f124.ntmps = 36 := by kernel_rfl
@[go_sem] theorem f125_en : entersB Tryz.prog 125 = true := by kernel_rfl
@[go_sem] theorem f125_rs : Tryz.f125.results.toList = [.tmp 6] := by kernel_rfl
@[go_sem] theorem f125_nt : Tryz.f125.ntmps = 19 := by kernel_rfl
@[go_sem] theorem f126_en : entersB Tryz.prog 126 = true := by kernel_rfl
@[go_sem] theorem f126_rs : Tryz.f126.results.toList = [.tmp 2] := by kernel_rfl
@[go_sem] theorem f126_nt : Tryz.f126.ntmps = 7 := by kernel_rfl
@[go_sem] theorem f127_en : entersB Tryz.prog 127 = true := by kernel_rfl
@[go_sem] theorem f127_rs : Tryz.f127.results.toList = [.tmp 2] := by kernel_rfl
@[go_sem] theorem f127_nt : Tryz.f127.ntmps = 78 := by kernel_rfl
@[go_sem] theorem f129_en : entersB Tryz.prog 129 = true := by kernel_rfl
@[go_sem] theorem f129_rs : Tryz.f129.results.toList = [.tmp 2] := by kernel_rfl
@[go_sem] theorem f129_nt : Tryz.f129.ntmps = 14 := by kernel_rfl
@[go_sem] theorem f130_en : entersB Tryz.prog 130 = true := by kernel_rfl
@[go_sem] theorem f130_rs : Tryz.f130.results.toList = [.tmp 6] := by kernel_rfl
@[go_sem] theorem f130_nt : Tryz.f130.ntmps = 60 := by kernel_rfl
@[go_sem] theorem f133_rs : Tryz.f133.results.toList = [.tmp 4] := by kernel_rfl
@[go_sem] theorem f133_nt : Tryz.f133.ntmps = 22 := by kernel_rfl
@[go_sem] theorem f143_en : entersB Tryz.prog 143 = true := by kernel_rfl
@[go_sem] theorem f143_rs : Tryz.f143.results.toList = [.tmp 6] := by kernel_rfl
@[go_sem] theorem f143_nt : Tryz.f143.ntmps = 15 := by kernel_rfl
@[go_sem] theorem f144_en : entersB Tryz.prog 144 = true := by kernel_rfl
@[go_sem] theorem f144_rs : Tryz.f144.results.toList = [.tmp 6] := by kernel_rfl
@[go_sem] theorem f144_nt : Tryz.f144.ntmps = 85 := by kernel_rfl
@[go_sem] theorem f145_en : entersB Tryz.prog 145 = true := by kernel_rfl
@[go_sem] theorem f145_rs : Tryz.f145.results.toList = [.tmp 2] := by kernel_rfl
@[go_sem] theorem f145_nt : Tryz.f145.ntmps = 40 := by kernel_rfl
@[go_sem] theorem f146_en : entersB Tryz.prog 146 = true := by kernel_rfl
@[go_sem] theorem f146_rs : Tryz.f146.results.toList = [.tmp 2] := by kernel_rfl
@[go_sem] theorem f146_nt : Tryz.f146.ntmps = 42 := by kernel_rfl
@[go_sem] theorem f147_en : entersB Tryz.prog 147 = true := by kernel_rfl
@[go_sem] theorem f147_rs : Tryz.f147.results.toList = [.tmp 2] := by kernel_rfl
@[go_sem] theorem f147_nt : Tryz.f147.ntmps = 54 := by kernel_rfl
@[go_sem] theorem f148_en : entersB Tryz.prog 148 = true := by kernel_rfl
@[go_sem] theorem f148_rs : Tryz.f148.results.toList = [.tmp 2] := by kernel_rfl
@[go_sem] theorem f148_nt : Tryz.f148.ntmps = 36 := by kernel_rfl
@[go_sem] theorem f149_en : entersB Tryz.prog 149 = true := by kernel_rfl
@[go_sem] theorem f149_rs : Tryz.f149.results.toList = [.tmp 4] := by kernel_rfl
@[go_sem] theorem f149_nt : Tryz.f149.ntmps = 97 := by kernel_rfl
@[go_sem] theorem f150_rs : Tryz.f150.results.toList = [.tmp 4] := by kernel_rfl
@[go_sem] theorem f150_nt : Tryz.f150.ntmps = 10 := by kernel_rfl
@[go_sem] theorem f151_en : entersB Tryz.prog 151 = true := by kernel_rfl
@[go_sem] theorem f151_rs : Tryz.f151.results.toList = [.tmp 4] := by kernel_rfl
@[go_sem] theorem f151_nt : Tryz.f151.ntmps = 20 := by kernel_rfl
@[go_sem] theorem f153_en : entersB Tryz.prog 153 = true := by kernel_rfl
@[go_sem] theorem f153_rs : Tryz.f153.results.toList = [.tmp 2, .tmp 3] := by kernel_rfl
@[go_sem] theorem f153_nt : Tryz.f153.ntmps = 24 := by kernel_rfl
@[go_sem] theorem f155_en : entersB Tryz.prog 155 = true := by kernel_rfl
@[go_sem] theorem f155_rs : Tryz.f155.results.toList = [] := by kernel_rfl
@[go_sem] theorem f155_nt : Tryz.f155.ntmps = 148 := by kernel_rfl
@[go_sem] theorem f156_en : entersB Tryz.prog 156 = true := by kernel_rfl
@[go_sem] theorem f156_rs : Tryz.f156.results.toList = [.tmp 2] := by kernel_rfl
@[go_sem] theorem f156_nt : Tryz.f156.ntmps = 8 := by kernel_rfl
@[go_sem] theorem f159_en : entersB Tryz.prog 159 = true := by kernel_rfl
@[go_sem] theorem f159_rs : Tryz.f159.results.toList = [.tmp 2] := by kernel_rfl
@[go_sem] theorem f159_nt : Tryz.f159.ntmps = 25 := by kernel_rfl
@[go_sem] theorem f162_en : entersB Tryz.prog 162 = true := by kernel_rfl
@[go_sem] theorem f162_rs : Tryz.f162.results.toList = [.tmp 2] := by kernel_rfl
@[go_sem] theorem f162_nt : Tryz.f162.ntmps = 28 := by kernel_rfl
@[go_sem] theorem f163_en : entersB Tryz.prog 163 = true := by kernel_rfl
@[go_sem] theorem f163_rs : Tryz.f163.results.toList = [.tmp 6] := by kernel_rfl
@[go_sem] theorem f163_nt : Tryz.f163.ntmps = 70 := by kernel_rfl
@[go_sem] theorem f164_en : entersB Tryz.prog 164 = true := by kernel_rfl
@[go_sem] theorem f164_rs : Tryz.f164.results.toList = [.tmp 4] := by kernel_rfl
@[go_sem] theorem f164_nt : Tryz.f164.ntmps = 16 := by kernel_rfl
@[go_sem] theorem f184_en : entersB Tryz.prog 184 = true := by kernel_rfl
@[go_sem] theorem f184_rs : Tryz.f184.results.toList = [.tmp 6] := by kernel_rfl
@[go_sem] theorem f184_nt : Tryz.f184.ntmps = 15 := by kernel_rfl
@[go_sem] theorem f197_en : entersB Tryz.prog 197 = true := by kernel_rfl
@[go_sem] theorem f197_rs : Tryz.f197.results.toList = [.tmp 4] := by kernel_rfl
@[go_sem] theorem f197_nt : Tryz.f197.ntmps = 8 := by kernel_rfl
@[go_sem] theorem f210_en : entersB Tryz.prog 210 = true := by kernel_rfl
@[go_sem] theorem f210_rs : Tryz.f210.results.toList = [.tmp 4] := by kernel_rfl
@[go_sem] theorem f210_nt : Tryz.f210.ntmps = 27 := by kernel_rfl
@[go_sem] theorem f211_en : entersB Tryz.prog 211 = true := by kernel_rfl
@[go_sem] theorem f211_rs : Tryz.f211.results.toList = [.tmp 4] := by kernel_rfl
@[go_sem] theorem f211_nt : Tryz.f211.ntmps = 9 := by kernel_rfl
@[go_sem] theorem f212_en : entersB Tryz.prog 212 = true := by kernel_rfl
@[go_sem] theorem f212_rs : Tryz.f212.results.toList = [.cell 4 106, .tmp 5, .tmp 6] := by kernel_rfl
@[go_sem] theorem f212_nt : Tryz.f212.ntmps = 123 := by kernel_rfl
@[go_sem] theorem f214_en : entersB Tryz.prog 214 = true := by kernel_rfl
@[go_sem] theorem f214_rs : Tryz.f214.results.toList = [.tmp 2] := by kernel_rfl
@[go_sem] theorem f214_nt : Tryz.f214.ntmps = 18 := by kernel_rfl
@[go_sem] theorem f224_en : entersB Tryz.prog 224 = true := by kernel_rfl
@[go_sem] theorem f224_rs : Tryz.f224.results.toList = [.tmp 2] := by kernel_rfl
@[go_sem] theorem f224_nt : Tryz.f224.ntmps = 21 := by kernel_rfl
@[go_sem] theorem f225_en : entersB Tryz.prog 225 = true := by kernel_rfl
@[go_sem] theorem f225_rs : Tryz.f225.results.toList = [] := by kernel_rfl
@[go_sem] theorem f225_nt : Tryz.f225.ntmps = 99 := by kernel_rfl
@[go_sem] theorem f226_en : entersB Tryz.prog 226 = true := by kernel_rfl
@[go_sem] theorem f226_rs : Tryz.f226.results.toList = [] := by kernel_rfl
@[go_sem] theorem f226_nt : Tryz.f226.ntmps = 66 := by kernel_rfl
@[go_sem] theorem f227_en : entersB Tryz.prog 227 = true := by kernel_rfl
@[go_sem] theorem f227_rs : Tryz.f227.results.toList = [.tmp 4] := by kernel_rfl
@[go_sem] theorem f227_nt : Tryz.f227.ntmps = 37 := by kernel_rfl
@[go_sem] theorem f228_en : entersB Tryz.prog 228 = true := by kernel_rfl
@[go_sem] theorem f228_rs : Tryz.f228.results.toList = [.tmp 2] := by kernel_rfl
@[go_sem] theorem f228_nt : Tryz.f228.ntmps = 29 := by kernel_rfl
@[go_sem] theorem f229_en : entersB Tryz.prog 229 = true := by kernel_rfl
@[go_sem] theorem f229_rs : Tryz.f229.results.toList = [.tmp 4] := by kernel_rfl
@[go_sem] theorem f229_nt : Tryz.f229.ntmps = 24 := by kernel_rfl
@[go_sem] theorem f230_en : entersB Tryz.prog 230 = true := by kernel_rfl
@[go_sem] theorem f230_rs : Tryz.f230.results.toList = [.tmp 2] := by kernel_rfl
@[go_sem] theorem f230_nt : Tryz.f230.ntmps = 20 := by kernel_rfl
@[go_sem] theorem f231_en : entersB Tryz.prog 231 = true := by kernel_rfl
@[go_sem] theorem f231_rs : Tryz.f231.results.toList = [.tmp 2] := by kernel_rfl
@[go_sem] theorem f231_nt : Tryz.f231.ntmps = 40 := by kernel_rfl
@[go_sem] theorem f232_en : entersB Tryz.prog 232 = true := by kernel_rfl
@[go_sem] theorem f232_rs : Tryz.f232.results.toList = [.tmp 2] := by kernel_rfl
@[go_sem] theorem f232_nt : Tryz.f232.ntmps = 65 := by kernel_rfl
@[go_sem] theorem f233_en : entersB Tryz.prog 233 = true := by kernel_rfl
@[go_sem] theorem f233_rs : Tryz.f233.results.toList = [.tmp 6, .tmp 7] := by kernel_rfl
@[go_sem] theorem f233_nt : Tryz.f233.ntmps = 49 := by kernel_rfl
@[go_sem] theorem f234_rs : Tryz.f234.results.toList = [.tmp 4] := by kernel_rfl
@[go_sem] theorem f234_nt : Tryz.f234.ntmps = 9 := by kernel_rfl
@[go_sem] theorem f235_en : entersB Tryz.prog 235 = true := by kernel_rfl
@[go_sem] theorem f235_rs : Tryz.f235.results.toList = [.tmp 4] := by kernel_rfl
@[go_sem] theorem f235_nt : Tryz.f235.ntmps = 16 := by kernel_rfl
@[go_sem] theorem f236_en : entersB Tryz.prog 236 = true := by kernel_rfl
@[go_sem] theorem f236_rs : Tryz.f236.results.toList = [.tmp 2] := by kernel_rfl
@[go_sem] theorem f236_nt : Tryz.f236.ntmps = 6 := by kernel_rfl
@[go_sem] theorem f240_en : entersB Tryz.prog 240 = true := by kernel_rfl
@[go_sem] theorem f240_rs : Tryz.f240.results.toList = [] := by kernel_rfl
@[go_sem] theorem f240_nt : Tryz.f240.ntmps = 53 := by kernel_rfl
@[go_sem] theorem f249_en : entersB Tryz.prog 249 = true := by kernel_rfl
@[go_sem] theorem f249_rs : Tryz.f249.results.toList = [.tmp 2] := by kernel_rfl
@[go_sem] theorem f249_nt : Tryz.f249.ntmps = 25 := by kernel_rfl
@[go_sem] theorem f250_en : entersB Tryz.prog 250 = true := by kernel_rfl
@[go_sem] theorem f250_rs : Tryz.f250.results.toList = [.tmp 2] := by kernel_rfl
@[go_sem] theorem f250_nt : Tryz.f250.ntmps = 21 := by kernel_rfl
@[go_sem] theorem f269_en : entersB Tryz.prog 269 = true := by kernel_rfl
@[go_sem] theorem f269_rs : Tryz.f269.results.toList = [.tmp 4] := by kernel_rfl
@[go_sem] theorem f269_nt : Tryz.f269.ntmps = 8 := by kernel_rfl
@[go_sem] theorem f287_en : entersB Tryz.prog 287 = true := by kernel_rfl
@[go_sem] theorem f287_rs : Tryz.f287.results.toList = [.tmp 4] := by kernel_rfl
@[go_sem] theorem f287_nt : Tryz.f287.ntmps = 49 := by kernel_rfl
@[go_sem] theorem f288_en : entersB Tryz.prog 288 = true := by kernel_rfl
@[go_sem] theorem f288_rs : Tryz.f288.results.toList = [.tmp 6] := by kernel_rfl
@[go_sem] theorem f288_nt : Tryz.f288.ntmps = 18 := by kernel_rfl
@[go_sem] theorem f289_en : entersB Tryz.prog 289 = true := by kernel_rfl
@[go_sem] theorem f289_rs : Tryz.f289.results.toList = [.tmp 4] := by kernel_rfl
@[go_sem] theorem f289_nt : Tryz.f289.ntmps = 42 := by kernel_rfl
@[go_sem] theorem f291_en : entersB Tryz.prog 291 = true := by kernel_rfl
@[go_sem] theorem f291_rs : Tryz.f291.results.toList = [.tmp 2] := by kernel_rfl
@[go_sem] theorem f291_nt : Tryz.f291.ntmps = 42 := by kernel_rfl
@[go_sem] theorem f292_en : entersB Tryz.prog 292 = true := by kernel_rfl
@[go_sem] theorem f292_rs : Tryz.f292.results.toList = [] := by kernel_rfl
@[go_sem] theorem f292_nt : Tryz.f292.ntmps = 33 := by kernel_rfl
@[go_sem] theorem f293_en : entersB Tryz.prog 293 = true := by kernel_rfl
@[go_sem] theorem f293_rs : Tryz.f293.results.toList = [.tmp 4] := by kernel_rfl
@[go_sem] theorem f293_nt : Tryz.f293.ntmps = 42 := by kernel_rfl
@[go_sem] theorem f294_rs : Tryz.f294.results.toList = [.tmp 3] := by kernel_rfl
@[go_sem] theorem f294_nt : Tryz.f294.ntmps = 9 := by kernel_rfl
@[go_sem] theorem f332_en : entersB Tryz.prog 332 = true := by kernel_rfl
@[go_sem] theorem f332_rs : Tryz.f332.results.toList = [.tmp 2] := by kernel_rfl
@[go_sem] theorem f332_nt : Tryz.f332.ntmps = 33 := by kernel_rfl
@[go_sem] theorem f334_en : entersB Tryz.prog 334 = true := by kernel_rfl
@[go_sem] theorem f334_rs : Tryz.f334.results.toList = [.tmp 6] := by kernel_rfl
@[go_sem] theorem f334_nt : Tryz.f334.ntmps = 33 := by kernel_rfl
@[go_sem] theorem f335_en : entersB Tryz.prog 335 = true := by kernel_rfl
@[go_sem] theorem f335_rs : Tryz.f335.results.toList = [.tmp 4] := by kernel_rfl
@[go_sem] theorem f335_nt : Tryz.f335.ntmps = 19 := by kernel_rfl
@[go_sem] theorem f338_rs : Tryz.f338.results.toList = [.tmp 2] := by kernel_rfl
@[go_sem] theorem f338_nt : Tryz.f338.ntmps = 21 := by kernel_rfl
@[go_sem] theorem f365_en : entersB Tryz.prog 365 = true := by kernel_rfl
@[go_sem] theorem f365_rs : Tryz.f365.results.toList = [.tmp 4, .tmp 5, .tmp 6] := by kernel_rfl
@[go_sem] theorem f365_nt : Tryz.f365.ntmps = 59 := by kernel_rfl
@[go_sem] theorem f325_en : entersB Tryz.prog 325 = false := by kernel_rfl
end Go.Proofs.YtnodfnjmhcjnfaaGreatDoor
