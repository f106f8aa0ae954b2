/- Several texts in one: Facts on the types, and what follows. No condition. -/
import Derived.Test.YtagoolooikpabaaGreatDoorProg
import Derived.Test.YtagoolooikpabaaGreatDoorHCoreC
import Derived.LoopNIn
import Derived.Tactics2
import Derived.Defers
import Derived.Laws.Pointers
import Derived.Laws.LoneSync
import Derived.Laws.NewBlocks
import Derived.RegionTactic
import Derived.RegionCalls
import Derived.ChangeAlike
import Derived.Shelf.Abstract
import Derived.Deep.LoopGhost
import Derived.Deep.WholeRow
import Derived.Lib.FrozenHead
import Derived.Lib.SliceRun
set_option linter.all false
namespace Go.Proofs.YtagoolooikpabaaGreatDoor
open Go Go.RowKit
@[go_sem] theorem t3_ag : aggT Tryz.prog 3 = false := by kernel_rfl
@[go_sem] theorem t3_sz : szT Tryz.prog 3 = 1 := by kernel_rfl
@[go_sem] theorem t3_in : (Tryz.prog.info? 3).isSome = true := by kernel_rfl
@[go_sem] theorem t3_un : (Tryz.prog.underlying 3).isSome = true := by kernel_rfl
@[go_sem] theorem t3_ze : zeroT Tryz.prog 3 = some [.int .i64 0] := by kernel_rfl
@[go_sem] theorem t4_sz : szT Tryz.prog 4 = 1 := by kernel_rfl
@[go_sem] theorem t4_in : (Tryz.prog.info? 4).isSome = true := by kernel_rfl
@[go_sem] theorem t5_ag : aggT Tryz.prog 5 = false := by kernel_rfl
@[go_sem] theorem t5_sz : szT Tryz.prog 5 = 1 := by kernel_rfl
@[go_sem] theorem t5_in : (Tryz.prog.info? 5).isSome = true := by kernel_rfl
@[go_sem] theorem t5_un : (Tryz.prog.underlying 5).isSome = true := by kernel_rfl
@[go_sem] theorem t5_ze : zeroT Tryz.prog 5 = some [.int .u8 0] := by kernel_rfl
@[go_sem] theorem t9_ag : aggT Tryz.prog 9 = false := by kernel_rfl
@[go_sem] theorem t9_sz : szT Tryz.prog 9 = 1 := by kernel_rfl
@[go_sem] theorem t9_in : (Tryz.prog.info? 9).isSome = true := by kernel_rfl
@[go_sem] theorem t9_ze : zeroT Tryz.prog 9 = some [.str ⟨#[]⟩] := by kernel_rfl
@[go_sem] theorem t9_by : Tryz.prog.bytesOf 9 = 16 := by kernel_rfl
@[go_sem] theorem t21_un : (Tryz.prog.underlying 21).isSome = true := by kernel_rfl
@[go_sem] theorem t22_ag : aggT Tryz.prog 22 = false := by kernel_rfl
@[go_sem] theorem t22_sz : szT Tryz.prog 22 = 1 := by kernel_rfl
@[go_sem] theorem t22_in : (Tryz.prog.info? 22).isSome = true := by kernel_rfl
@[go_sem] theorem t22_un : (Tryz.prog.underlying 22).isSome = true := by kernel_rfl
@[go_sem] theorem t23_ag : aggT Tryz.prog 23 = false := by kernel_rfl
@[go_sem] theorem t23_sz : szT Tryz.prog 23 = 1 := by kernel_rfl
@[go_sem] theorem t23_in : (Tryz.prog.info? 23).isSome = true := by kernel_rfl
@[go_sem] theorem t23_un : (Tryz.prog.underlying 23).isSome = true := by kernel_rfl
@[go_sem] theorem t25_ze : zeroT Tryz.prog 25 = some [.sl none 0, .int .i64 0] := by kernel_rfl
@[go_sem] theorem t25_fo : fieldsOk Tryz.prog 25 = true := by kernel_rfl
@[go_sem] theorem t26_ag : aggT Tryz.prog 26 = false := by kernel_rfl
@[go_sem] theorem t26_sz : szT Tryz.prog 26 = 1 := by kernel_rfl
@[go_sem] theorem t26_in : (Tryz.prog.info? 26).isSome = true := by kernel_rfl
@[go_sem] theorem t26_un : (Tryz.prog.underlying 26).isSome = true := by kernel_rfl
@[go_sem] theorem t29_ag : aggT Tryz.prog 29 = false := by kernel_rfl
@[go_sem] theorem t29_sz : szT Tryz.prog 29 = 1 := by kernel_rfl
@[go_sem] theorem t29_in : (Tryz.prog.info? 29).isSome = true := by kernel_rfl
@[go_sem] theorem t29_un : (Tryz.prog.underlying 29).isSome = true := by kernel_rfl
@[go_sem] theorem t29_ze : zeroT Tryz.prog 29 = some [.sl none 0] := by kernel_rfl
@[go_sem] theorem t30_ag : aggT Tryz.prog 30 = false := by kernel_rfl
@[go_sem] theorem t30_sz : szT Tryz.prog 30 = 1 := by kernel_rfl
@[go_sem] theorem t30_in : (Tryz.prog.info? 30).isSome = true := by kernel_rfl
@[go_sem] theorem t30_un : (Tryz.prog.underlying 30).isSome = true := by kernel_rfl
@[go_sem] theorem t30_ze : zeroT Tryz.prog 30 = some [.int .i64 0] := by kernel_rfl
@[go_sem] theorem t42_ag : aggT Tryz.prog 42 = false := by kernel_rfl
@[go_sem] theorem t42_sz : szT Tryz.prog 42 = 1 := by kernel_rfl
@[go_sem] theorem t42_in : (Tryz.prog.info? 42).isSome = true := by kernel_rfl
@[go_sem] theorem t42_un : (Tryz.prog.underlying 42).isSome = true := by kernel_rfl
@[go_sem] theorem t55_ag : aggT Tryz.prog 55 = true := by kernel_rfl
@[go_sem] theorem t55_sz : szT Tryz.prog 55 = 2 := by kernel_rfl
@[go_sem] theorem t55_in : (Tryz.prog.info? 55).isSome = true := by kernel_rfl
@[go_sem] theorem t55_un : (Tryz.prog.underlying 55).isSome = true := by kernel_rfl
@[go_sem] theorem t55_ze : zeroT Tryz.prog 55 = some [.str ⟨#[]⟩, .str ⟨#[]⟩] := by kernel_rfl
@[go_sem] theorem t55_fo : fieldsOk Tryz.prog 55 = true := by kernel_rfl
@[go_sem] theorem t60_ag : aggT Tryz.prog 60 = true := by kernel_rfl
@[go_sem] theorem t60_sz : szT Tryz.prog 60 = 2 := by kernel_rfl
@[go_sem] theorem t60_in : (Tryz.prog.info? 60).isSome = true := by kernel_rfl
@[go_sem] theorem t60_un : (Tryz.prog.underlying 60).isSome = true := by kernel_rfl
@[go_sem] theorem t60_ze : zeroT Tryz.prog 60 = some [.str ⟨#[]⟩, .str ⟨#[]⟩] := by kernel_rfl
@[go_sem] theorem t60_fo : fieldsOk Tryz.prog 60 = true := by kernel_rfl
@[go_sem] theorem t76_ag : aggT Tryz.prog 76 = false := by kernel_rfl
@[go_sem] theorem t76_sz : szT Tryz.prog 76 = 1 := by kernel_rfl
@[go_sem] theorem t76_in : (Tryz.prog.info? 76).isSome = true := by kernel_rfl
@[go_sem] theorem t76_un : (Tryz.prog.underlying 76).isSome = true := by kernel_rfl
@[go_sem] theorem t82_ag : aggT Tryz.prog 82 = false := by kernel_rfl
@[go_sem] theorem t82_sz : szT Tryz.prog 82 = 1 := by kernel_rfl
@[go_sem] theorem t82_in : (Tryz.prog.info? 82).isSome = true := by kernel_rfl
@[go_sem] theorem t82_un : (Tryz.prog.underlying 82).isSome = true := by kernel_rfl
@[go_sem] theorem t82_ze : zeroT Tryz.prog 82 = some [.map none] := by kernel_rfl
@[go_sem] theorem t83_ag : aggT Tryz.prog 83 = false := by kernel_rfl
@[go_sem] theorem t83_sz : szT Tryz.prog 83 = 1 := by kernel_rfl
@[go_sem] theorem t83_in : (Tryz.prog.info? 83).isSome = true := by kernel_rfl
@[go_sem] theorem t83_un : (Tryz.prog.underlying 83).isSome = true := by kernel_rfl
@[go_sem] theorem t83_ze : zeroT Tryz.prog 83 = some [.ptr none] := by kernel_rfl
@[go_sem] theorem t99_ag : aggT Tryz.prog 99 = true := by kernel_rfl
@[go_sem] theorem t99_sz : szT Tryz.prog 99 = 3 := by kernel_rfl
@[go_sem] theorem t99_in : (Tryz.prog.info? 99).isSome = true := by kernel_rfl
@[go_sem] theorem t99_un : (Tryz.prog.underlying 99).isSome = true := by kernel_rfl
@[go_sem] theorem t99_ze : zeroT Tryz.prog 99 = some [.int .i64 0, .int .i64 0, .int .i64 0] := by kernel_rfl
@[go_sem] theorem t99_fo : fieldsOk Tryz.prog 99 = true := by kernel_rfl
@[go_sem] theorem t102_ag : aggT Tryz.prog 102 = false := by kernel_rfl
@[go_sem] theorem t102_sz : szT Tryz.prog 102 = 1 := by kernel_rfl
@[go_sem] theorem t102_in : (Tryz.prog.info? 102).isSome = true := by kernel_rfl
@[go_sem] theorem t102_un : (Tryz.prog.underlying 102).isSome = true := by kernel_rfl
@[go_sem] theorem t105_ag : aggT Tryz.prog 105 = true := by kernel_rfl
@[go_sem] theorem t105_sz : szT Tryz.prog 105 = 2 := by kernel_rfl
@[go_sem] theorem t105_in : (Tryz.prog.info? 105).isSome = true := by kernel_rfl
@[go_sem] theorem t105_un : (Tryz.prog.underlying 105).isSome = true := by kernel_rfl
@[go_sem] theorem t105_ze : zeroT Tryz.prog 105 = some [.str ⟨#[]⟩, .sl none 0] := by kernel_rfl
@[go_sem] theorem t105_fo : fieldsOk Tryz.prog 105 = true := by kernel_rfl
@[go_sem] theorem t107_ag : aggT Tryz.prog 107 = false := by kernel_rfl
@[go_sem] theorem t107_sz : szT Tryz.prog 107 = 1 := by kernel_rfl
@[go_sem] theorem t107_in : (Tryz.prog.info? 107).isSome = true := by kernel_rfl
@[go_sem] theorem t107_un : (Tryz.prog.underlying 107).isSome = true := by kernel_rfl
@[go_sem] theorem t107_ze : zeroT Tryz.prog 107 = some [.sl none 0] := by kernel_rfl
@[go_sem] theorem t111_ag : aggT Tryz.prog 111 = false := by kernel_rfl
@[go_sem] theorem t111_sz : szT Tryz.prog 111 = 1 := by kernel_rfl
@[go_sem] theorem t111_in : (Tryz.prog.info? 111).isSome = true := by kernel_rfl
@[go_sem] theorem t111_un : (Tryz.prog.underlying 111).isSome = true := by kernel_rfl
@[go_sem] theorem t113_ag : aggT Tryz.prog 113 = false := by kernel_rfl
@[go_sem] theorem t113_sz : szT Tryz.prog 113 = 1 := by kernel_rfl
@[go_sem] theorem t113_in : (Tryz.prog.info? 113).isSome = true := by kernel_rfl
@[go_sem] theorem t113_un : (Tryz.prog.underlying 113).isSome = true := by kernel_rfl
@[go_sem] theorem t115_ze : zeroT Tryz.prog 115 = some [.map none, .nilf, .map none] := by kernel_rfl
@[go_sem] theorem t115_fo : fieldsOk Tryz.prog 115 = true := by kernel_rfl
@[go_sem] theorem t117_ag : aggT Tryz.prog 117 = true := by kernel_rfl
@[go_sem] theorem t117_sz : szT Tryz.prog 117 = 2 := by kernel_rfl
@[go_sem] theorem t117_in : (Tryz.prog.info? 117).isSome = true := by kernel_rfl
@[go_sem] theorem t117_un : (Tryz.prog.underlying 117).isSome = true := by kernel_rfl
@[go_sem] theorem t117_ze : zeroT Tryz.prog 117 = some [.int .i64 0, .int .i64 0] := by kernel_rfl
@[go_sem] theorem t117_fo : fieldsOk Tryz.prog 117 = true := by kernel_rfl
@[go_sem] theorem t119_ag : aggT Tryz.prog 119 = false := by kernel_rfl
@[go_sem] theorem t119_sz : szT Tryz.prog 119 = 1 := by kernel_rfl
@[go_sem] theorem t119_in : (Tryz.prog.info? 119).isSome = true := by kernel_rfl
@[go_sem] theorem t119_un : (Tryz.prog.underlying 119).isSome = true := by kernel_rfl
@[go_sem] theorem t119_ze : zeroT Tryz.prog 119 = some [.sl none 0] := by kernel_rfl
@[go_sem] theorem t122_ag : aggT Tryz.prog 122 = false := by kernel_rfl
@[go_sem] theorem t122_sz : szT Tryz.prog 122 = 1 := by kernel_rfl
@[go_sem] theorem t122_in : (Tryz.prog.info? 122).isSome = true := by kernel_rfl
@[go_sem] theorem t122_un : (Tryz.prog.underlying 122).isSome = true := by kernel_rfl
@[go_sem] theorem t124_ze : zeroT Tryz.prog 124 = some [.sl none 0, .sl none 0, .map none] := by kernel_rfl
@[go_sem] theorem t124_fo : fieldsOk Tryz.prog 124 = true := by kernel_rfl
@[go_sem] theorem t126_ag : aggT Tryz.prog 126 = true := by kernel_rfl
@[go_sem] theorem t126_sz : szT Tryz.prog 126 = 2 := by kernel_rfl
@[go_sem] theorem t126_in : (Tryz.prog.info? 126).isSome = true := by kernel_rfl
@[go_sem] theorem t126_un : (Tryz.prog.underlying 126).isSome = true := by kernel_rfl
@[go_sem] theorem t126_ze : zeroT Tryz.prog 126 = some [.int .i64 0, .int .i64 0] := by kernel_rfl
@[go_sem] theorem t126_fo : fieldsOk Tryz.prog 126 = true := by kernel_rfl
@[go_sem] theorem t130_un : (Tryz.prog.underlying 130).isSome = true := by kernel_rfl
@[go_sem] theorem t159_ze : zeroT Tryz.prog 159 = some [.int .u32 0, .int .i32 0, .int .u32 0, .nili, .sl none 0] := by kernel_rfl
@[go_sem] theorem t159_fo : fieldsOk Tryz.prog 159 = true := by kernel_rfl
@[go_sem] theorem t171_ag : aggT Tryz.prog 171 = false := by kernel_rfl
@[go_sem] theorem t171_sz : szT Tryz.prog 171 = 1 := by kernel_rfl
@[go_sem] theorem t171_in : (Tryz.prog.info? 171).isSome = true := by kernel_rfl
@[go_sem] theorem t171_un : (Tryz.prog.underlying 171).isSome = true := by kernel_rfl
@[go_sem] theorem t173_ag : aggT Tryz.prog 173 = true := by kernel_rfl
@[go_sem] theorem t173_sz : szT Tryz.prog 173 = 5 := by kernel_rfl
@[go_sem] theorem t173_in : (Tryz.prog.info? 173).isSome = true := by kernel_rfl
@[go_sem] theorem t173_un : (Tryz.prog.underlying 173).isSome = true := by kernel_rfl
@[go_sem] theorem t173_ze : zeroT Tryz.prog 173 = some [.int .u8 0, .str ⟨#[]⟩, .int .i64 0, .sl none 0, .int .i64 0] := by kernel_rfl
@[go_sem] theorem t173_fo : fieldsOk Tryz.prog 173 = true := by kernel_rfl
@[go_sem] theorem t180_ag : aggT Tryz.prog 180 = false := by kernel_rfl
@[go_sem] theorem t180_sz : szT Tryz.prog 180 = 1 := by kernel_rfl
@[go_sem] theorem t180_in : (Tryz.prog.info? 180).isSome = true := by kernel_rfl
@[go_sem] theorem t180_un : (Tryz.prog.underlying 180).isSome = true := by kernel_rfl
@[go_sem] theorem t180_ze : zeroT Tryz.prog 180 = some [.map none] := by kernel_rfl
@[go_sem] theorem t182_ag : aggT Tryz.prog 182 = true := by kernel_rfl
@[go_sem] theorem t182_sz : szT Tryz.prog 182 = 2 := by kernel_rfl
@[go_sem] theorem t182_in : (Tryz.prog.info? 182).isSome = true := by kernel_rfl
@[go_sem] theorem t182_un : (Tryz.prog.underlying 182).isSome = true := by kernel_rfl
@[go_sem] theorem t182_ze : zeroT Tryz.prog 182 = some [.str ⟨#[]⟩, .int .i64 0] := by kernel_rfl
@[go_sem] theorem t182_fo : fieldsOk Tryz.prog 182 = true := by kernel_rfl
@[go_sem] theorem t183_ag : aggT Tryz.prog 183 = false := by kernel_rfl
@[go_sem] theorem t183_sz : szT Tryz.prog 183 = 1 := by kernel_rfl
@[go_sem] theorem t183_in : (Tryz.prog.info? 183).isSome = true := by kernel_rfl
@[go_sem] theorem t183_un : (Tryz.prog.underlying 183).isSome = true := by kernel_rfl
@[go_sem] theorem t183_ze : zeroT Tryz.prog 183 = some [.nilf] := by kernel_rfl
@[go_sem] theorem t192_ag : aggT Tryz.prog 192 = true := by kernel_rfl
@[go_sem] theorem t192_sz : szT Tryz.prog 192 = 2 := by kernel_rfl
@[go_sem] theorem t192_in : (Tryz.prog.info? 192).isSome = true := by kernel_rfl
@[go_sem] theorem t192_un : (Tryz.prog.underlying 192).isSome = true := by kernel_rfl
@[go_sem] theorem t192_ze : zeroT Tryz.prog 192 = some [.str ⟨#[]⟩, .int .i64 0] := by kernel_rfl
@[go_sem] theorem t192_fo : fieldsOk Tryz.prog 192 = true := by kernel_rfl
@[go_sem] theorem t214_ag : aggT Tryz.prog 214 = true := by kernel_rfl
@[go_sem] theorem t214_sz : szT Tryz.prog 214 = 3 := by kernel_rfl
@[go_sem] theorem t214_in : (Tryz.prog.info? 214).isSome = true := by kernel_rfl
@[go_sem] theorem t214_un : (Tryz.prog.underlying 214).isSome = true := by kernel_rfl
@[go_sem] theorem t214_ze : zeroT Tryz.prog 214 = some [.int .i64 0, .int .i64 0, .str ⟨#[]⟩] := by kernel_rfl
@[go_sem] theorem t214_fo : fieldsOk Tryz.prog 214 = true := by kernel_rfl
@[go_sem] theorem t216_ze : zeroT Tryz.prog 216 = some [.str ⟨#[]⟩, .int .i64 0, .int .i64 0, .str ⟨#[]⟩, .int .i64 0, .int .i64 0, .int .i64 0] := by kernel_rfl
@[go_sem] theorem t216_fo : fieldsOk Tryz.prog 216 = true := by kernel_rfl
@[go_sem] theorem t231_ag : aggT Tryz.prog 231 = false := by kernel_rfl
@[go_sem] theorem t231_sz : szT Tryz.prog 231 = 1 := by kernel_rfl
@[go_sem] theorem t231_in : (Tryz.prog.info? 231).isSome = true := by kernel_rfl
@[go_sem] theorem t231_un : (Tryz.prog.underlying 231).isSome = true := by kernel_rfl
@[go_sem] theorem t233_ze : zeroT Tryz.prog 233 = some [.str ⟨#[]⟩, .int .i64 0, .str ⟨#[]⟩, .sl none 0, .bool false] := by kernel_rfl
@[go_sem] theorem t233_fo : fieldsOk Tryz.prog 233 = true := by kernel_rfl
@[go_sem] theorem t239_ag : aggT Tryz.prog 239 = false := by kernel_rfl
@[go_sem] theorem t239_sz : szT Tryz.prog 239 = 1 := by kernel_rfl
@[go_sem] theorem t239_in : (Tryz.prog.info? 239).isSome = true := by kernel_rfl
@[go_sem] theorem t239_un : (Tryz.prog.underlying 239).isSome = true := by kernel_rfl
@[go_sem] theorem t240_ag : aggT Tryz.prog 240 = false := by kernel_rfl
@[go_sem] theorem t240_sz : szT Tryz.prog 240 = 1 := by kernel_rfl
@[go_sem] theorem t240_in : (Tryz.prog.info? 240).isSome = true := by kernel_rfl
@[go_sem] theorem t240_un : (Tryz.prog.underlying 240).isSome = true := by kernel_rfl
@[go_sem] theorem t243_ze : zeroT Tryz.prog 243 = some [.sl none 0, .int .i64 0, .int .i64 0, .int .i64 0] := by kernel_rfl
@[go_sem] theorem t243_fo : fieldsOk Tryz.prog 243 = true := by kernel_rfl
@[go_sem] theorem t291_un : (Tryz.prog.underlying 291).isSome = true := by kernel_rfl
@[go_sem] theorem t293_ag : aggT Tryz.prog 293 = true := by kernel_rfl
@[go_sem] theorem t293_sz : szT Tryz.prog 293 = 3 := by kernel_rfl
@[go_sem] theorem t293_in : (Tryz.prog.info? 293).isSome = true := by kernel_rfl
@[go_sem] theorem t293_un : (Tryz.prog.underlying 293).isSome = true := by kernel_rfl
@[go_sem] theorem t293_ze : zeroT Tryz.prog 293 = some [.int .u8 0, .str ⟨#[]⟩, .int .i64 0] := by kernel_rfl
@[go_sem] theorem t293_fo : fieldsOk Tryz.prog 293 = true := by kernel_rfl
@[go_sem] theorem t25_f0 : fieldT Tryz.prog 25 0 = some (0, 1) := by kernel_rfl
@[go_sem] theorem t25_f1 : fieldT Tryz.prog 25 1 = some (1, 1) := by kernel_rfl
@[go_sem] theorem t55_f0 : fieldT Tryz.prog 55 0 = some (0, 1) := by kernel_rfl
@[go_sem] theorem t55_f1 : fieldT Tryz.prog 55 1 = some (1, 1) := by kernel_rfl
@[go_sem] theorem t60_f0 : fieldT Tryz.prog 60 0 = some (0, 1) := by kernel_rfl
@[go_sem] theorem t60_f1 : fieldT Tryz.prog 60 1 = some (1, 1) := by kernel_rfl
@[go_sem] theorem t99_f0 : fieldT Tryz.prog 99 0 = some (0, 1) := by kernel_rfl
@[go_sem] theorem t99_f1 : fieldT Tryz.prog 99 1 = some (1, 1) := by kernel_rfl
@[go_sem] theorem t99_f2 : fieldT Tryz.prog 99 2 = some (2, 1) := by kernel_rfl
@[go_sem] theorem t105_f0 : fieldT Tryz.prog 105 0 = some (0, 1) := by kernel_rfl
@[go_sem] theorem t105_f1 : fieldT Tryz.prog 105 1 = some (1, 1) := by kernel_rfl
@[go_sem] theorem t115_f0 : fieldT Tryz.prog 115 0 = some (0, 1) := by kernel_rfl
@[go_sem] theorem t115_f1 : fieldT Tryz.prog 115 1 = some (1, 1) := by kernel_rfl
@[go_sem] theorem t115_f2 : fieldT Tryz.prog 115 2 = some (2, 1) := by kernel_rfl
@[go_sem] theorem t117_f0 : fieldT Tryz.prog 117 0 = some (0, 1) := by kernel_rfl
@[go_sem] theorem t117_f1 : fieldT Tryz.prog 117 1 = some (1, 1) := by kernel_rfl
@[go_sem] theorem t124_f0 : fieldT Tryz.prog 124 0 = some (0, 1) := by kernel_rfl
@[go_sem] theorem t124_f1 : fieldT Tryz.prog 124 1 = some (1, 1) := by kernel_rfl
@[go_sem] theorem t124_f2 : fieldT Tryz.prog 124 2 = some (2, 1) := by kernel_rfl
@[go_sem] theorem t126_f0 : fieldT Tryz.prog 126 0 = some (0, 1) := by kernel_rfl
@[go_sem] theorem t126_f1 : fieldT Tryz.prog 126 1 = some (1, 1) := by kernel_rfl
@[go_sem] theorem t159_f2 : fieldT Tryz.prog 159 2 = some (4, 1) := by kernel_rfl
@[go_sem] theorem t173_f0 : fieldT Tryz.prog 173 0 = some (0, 1) := by kernel_rfl
@[go_sem] theorem t173_f1 : fieldT Tryz.prog 173 1 = some (1, 1) := by kernel_rfl
@[go_sem] theorem t173_f2 : fieldT Tryz.prog 173 2 = some (2, 1) := by kernel_rfl
@[go_sem] theorem t173_f3 : fieldT Tryz.prog 173 3 = some (3, 1) := by kernel_rfl
@[go_sem] theorem t173_f4 : fieldT Tryz.prog 173 4 = some (4, 1) := by kernel_rfl
@[go_sem] theorem t182_f0 : fieldT Tryz.prog 182 0 = some (0, 1) := by kernel_rfl
@[go_sem] theorem t182_f1 : fieldT Tryz.prog 182 1 = some (1, 1) := by kernel_rfl
@[go_sem] theorem t192_f0 : fieldT Tryz.prog 192 0 = some (0, 1) := by kernel_rfl
@[go_sem] theorem t192_f1 : fieldT Tryz.prog 192 1 = some (1, 1) := by kernel_rfl
@[go_sem] theorem t214_f0 : fieldT Tryz.prog 214 0 = some (0, 1) := by kernel_rfl
@[go_sem] theorem t214_f1 : fieldT Tryz.prog 214 1 = some (1, 1) := by kernel_rfl
@[go_sem] theorem t214_f2 : fieldT Tryz.prog 214 2 = some (2, 1) := by kernel_rfl
@[go_sem] theorem t216_f0 : fieldT Tryz.prog 216 0 = some (0, 1) := by kernel_rfl
@[go_sem] theorem t216_f1 : fieldT Tryz.prog 216 1 = some (1, 3) := by kernel_rfl
@[go_sem] theorem t216_f2 : fieldT Tryz.prog 216 2 = some (4, 1) := by kernel_rfl
@[go_sem] theorem t216_f3 : fieldT Tryz.prog 216 3 = some (5, 1) := by kernel_rfl
@[go_sem] theorem t216_f4 : fieldT Tryz.prog 216 4 = some (6, 1) := by kernel_rfl
@[go_sem] theorem t233_f0 : fieldT Tryz.prog 233 0 = some (0, 1) := by kernel_rfl
@[go_sem] theorem t233_f1 : fieldT Tryz.prog 233 1 = some (1, 1) := by kernel_rfl
@[go_sem] theorem t233_f2 : fieldT Tryz.prog 233 2 = some (2, 1) := by kernel_rfl
@[go_sem] theorem t233_f3 : fieldT Tryz.prog 233 3 = some (3, 1) := by kernel_rfl
@[go_sem] theorem t233_f4 : fieldT Tryz.prog 233 4 = some (4, 1) := by kernel_rfl
@[go_sem] theorem t243_f0 : fieldT Tryz.prog 243 0 = some (0, 1) := by kernel_rfl
@[go_sem] theorem t243_f1 : fieldT Tryz.prog 243 1 = some (1, 1) := by kernel_rfl
@[go_sem] theorem t243_f2 : fieldT Tryz.prog 243 2 = some (2, 1) := by kernel_rfl
@[go_sem] theorem t243_f3 : fieldT Tryz.prog 243 3 = some (3, 1) := by kernel_rfl
@[go_sem] theorem t293_f0 : fieldT Tryz.prog 293 0 = some (0, 1) := by kernel_rfl
@[go_sem] theorem t293_f1 : fieldT Tryz.prog 293 1 = some (1, 1) := by kernel_rfl
@[go_sem] theorem t293_f2 : fieldT Tryz.prog 293 2 = some (2, 1) := by kernel_rfl
@[go_sem] theorem t9_st : strT Tryz.prog 9 = true := by kernel_rfl
@[go_sem] theorem t9_el : elemT Tryz.prog 9 = none := by kernel_rfl
@[go_sem] theorem t9_us : Tryz.prog.underlying 9 = some .string := by kernel_rfl
@[go_sem] theorem t22_el : elemT Tryz.prog 22 = some 3 := by kernel_rfl
@[go_sem] theorem t26_el : elemT Tryz.prog 26 = some 60 := by kernel_rfl
@[go_sem] theorem t29_el : elemT Tryz.prog 29 = some 9 := by kernel_rfl
@[go_sem] theorem t29_st : strT Tryz.prog 29 = false := by kernel_rfl
@[go_sem] theorem t42_el : elemT Tryz.prog 42 = some 105 := by kernel_rfl
@[go_sem] theorem t48_el : elemT Tryz.prog 48 = some 55 := by kernel_rfl
@[go_sem] theorem t93_el : elemT Tryz.prog 93 = some 30 := by kernel_rfl
@[go_sem] theorem t102_el : elemT Tryz.prog 102 = some 99 := by kernel_rfl
@[go_sem] theorem t107_el : elemT Tryz.prog 107 = some 182 := by kernel_rfl
@[go_sem] theorem t119_el : elemT Tryz.prog 119 = some 192 := by kernel_rfl
@[go_sem] theorem t130_el : elemT Tryz.prog 130 = some 5 := by kernel_rfl
@[go_sem] theorem t171_el : elemT Tryz.prog 171 = some 173 := by kernel_rfl
@[go_sem] theorem t231_el : elemT Tryz.prog 231 = some 83 := by kernel_rfl
@[go_sem] theorem t240_el : elemT Tryz.prog 240 = some 293 := by kernel_rfl
@[go_sem] theorem t240_st : strT Tryz.prog 240 = false := by kernel_rfl
@[go_sem] theorem t254_el : elemT Tryz.prog 254 = some 126 := by kernel_rfl
@[go_sem] theorem t3_ik : intK Tryz.prog 3 = some .i64 := by kernel_rfl
@[go_sem] theorem t5_ik : intK Tryz.prog 5 = some .u8 := by kernel_rfl
@[go_sem] theorem t9_ik : intK Tryz.prog 9 = none := by kernel_rfl
@[go_sem] theorem t21_ik : intK Tryz.prog 21 = some .i32 := by kernel_rfl
@[go_sem] theorem t236_un : (Tryz.prog.underlying 236).isSome = true := by kernel_rfl
@[go_sem] theorem t236_ik : intK Tryz.prog 236 = some .u64 := by kernel_rfl
@[go_sem] theorem t3_bt : bytesT Tryz.prog 3 = false := by kernel_rfl
@[go_sem] theorem t5_bt : bytesT Tryz.prog 5 = false := by kernel_rfl
@[go_sem] theorem t9_bt : bytesT Tryz.prog 9 = false := by kernel_rfl
@[go_sem] theorem t21_bt : bytesT Tryz.prog 21 = false := by kernel_rfl
@[go_sem] theorem t130_bt : bytesT Tryz.prog 130 = true := by kernel_rfl
@[go_sem] theorem t236_bt : bytesT Tryz.prog 236 = false := by kernel_rfl
@[go_sem] theorem t291_bt : bytesT Tryz.prog 291 = false := by kernel_rfl
@[go_sem] theorem t117_k1 : fieldK Tryz.prog 117 1 = some (1, 1, false) := by kernel_rfl
@[go_sem] theorem t293_k0 : fieldK Tryz.prog 293 0 = some (0, 1, false) := by kernel_rfl
@[go_sem] theorem t55_fk : fieldsK Tryz.prog 55 = some [(0, 3), (1, 3)] := by kernel_rfl
@[go_sem] theorem t83_kd : kindT Tryz.prog 83 = 2 := by kernel_rfl
@[go_sem] theorem t119_kd : kindT Tryz.prog 119 = 3 := by kernel_rfl
@[go_sem] theorem t192_fk : fieldsK Tryz.prog 192 = some [(0, 3), (1, 1)] := by kernel_rfl
@[go_sem] theorem t226_kd : kindT Tryz.prog 226 = 6 := by kernel_rfl
@[go_sem] theorem f4_rs : Tryz.f4.results.toList = [.tmp 2] := by kernel_rfl
@[go_sem] theorem f4_nt : Tryz.f4.ntmps = 66 := by kernel_rfl
@[go_sem] theorem f6_en : entersB Tryz.prog 6 = true := by kernel_rfl
@[go_sem] theorem f6_rs : Tryz.f6.results.toList = [.tmp 2] := by kernel_rfl
@[go_sem] theorem f6_nt : Tryz.f6.ntmps = 95 := by kernel_rfl
@[go_sem] theorem f7_en : entersB Tryz.prog 7 = true := by kernel_rfl
@[go_sem] theorem f7_rs : Tryz.f7.results.toList = [.tmp 4] := by kernel_rfl
@[go_sem] theorem f7_nt : Tryz.f7.ntmps = 12 := by kernel_rfl
@[go_sem] theorem f8_en : entersB Tryz.prog 8 = true := by kernel_rfl
@[go_sem] theorem f8_rs : Tryz.f8.results.toList = [.tmp 2, .tmp 3] := by kernel_rfl
@[go_sem] theorem f8_nt : Tryz.f8.ntmps = 21 := by kernel_rfl
@[go_sem] theorem f11_en : entersB Tryz.prog 11 = true := by kernel_rfl
@[go_sem] theorem f11_rs : Tryz.f11.results.toList = [.tmp 2] := by kernel_rfl
@[go_sem] theorem f11_nt : Tryz.f11.ntmps = 50 := by kernel_rfl
@[go_sem] theorem f12_en : entersB Tryz.prog 12 = true := by kernel_rfl
@[go_sem] theorem f12_rs : Tryz.f12.results.toList = [.tmp 2] := by kernel_rfl
@[go_sem] theorem f12_nt : Tryz.f12.ntmps = 15 := by kernel_rfl
@[go_sem] theorem f14_en : entersB Tryz.prog 14 = true := by kernel_rfl
@[go_sem] theorem f14_rs : Tryz.f14.results.toList = [.tmp 2, .tmp 3] := by kernel_rfl
@[go_sem] theorem f14_nt : Tryz.f14.ntmps = 25 := by kernel_rfl
@[go_sem] theorem f17_en : entersB Tryz.prog 17 = true := by kernel_rfl
@[go_sem] theorem f17_rs : Tryz.f17.results.toList = [.tmp 2] := by kernel_rfl
@[go_sem] theorem f17_nt : Tryz.f17.ntmps = 46 := by kernel_rfl
@[go_sem] theorem f19_en : entersB Tryz.prog 19 = true := by kernel_rfl
@[go_sem] theorem f19_rs : Tryz.f19.results.toList = [.tmp 0] := by kernel_rfl
@[go_sem] theorem f19_nt : Tryz.f19.ntmps = 19 := by kernel_rfl
@[go_sem] theorem f20_en : entersB Tryz.prog 20 = true := by kernel_rfl
@[go_sem] theorem f20_rs : Tryz.f20.results.toList = [.tmp 2] := by kernel_rfl
@[go_sem] theorem f20_nt : Tryz.f20.ntmps = 54 := by kernel_rfl
@[go_sem] theorem f21_en : entersB Tryz.prog 21 = true := by kernel_rfl
@[go_sem] theorem f21_rs : Tryz.f21.results.toList = [.tmp 2] := by kernel_rfl
@[go_sem] theorem f21_nt : Tryz.f21.ntmps = 6 := by kernel_rfl
@[go_sem] theorem f22_en : entersB Tryz.prog 22 = true := by kernel_rfl
@[go_sem] theorem f22_rs : Tryz.f22.results.toList = [.tmp 4] := by kernel_rfl
@[go_sem] theorem f22_nt : Tryz.f22.ntmps = 9 := by kernel_rfl
@[go_sem] theorem f23_en : entersB Tryz.prog 23 = true := by kernel_rfl
@[go_sem] theorem f23_rs : Tryz.f23.results.toList = [.tmp 4] := by kernel_rfl
@[go_sem] theorem f23_nt : Tryz.f23.ntmps = 49 := by kernel_rfl
@[go_sem] theorem f24_en : entersB Tryz.prog 24 = true := by kernel_rfl
@[go_sem] theorem f24_rs : Tryz.f24.results.toList = [.tmp 4] := by kernel_rfl
@[go_sem] theorem f24_nt : Tryz.f24.ntmps = 12 := by kernel_rfl
@[go_sem] theorem f25_en : entersB Tryz.prog 25 = true := by kernel_rfl
@[go_sem] theorem f25_rs : Tryz.f25.results.toList = [.tmp 6, .tmp 7] := by kernel_rfl
@[go_sem] theorem f25_nt : Tryz.f25.ntmps = 78 := by kernel_rfl
@[go_sem] theorem f26_en : entersB Tryz.prog 26 = true := by kernel_rfl
@[go_sem] theorem f26_rs : Tryz.f26.results.toList = [.tmp 2] := by kernel_rfl
@[go_sem] theorem f26_nt : Tryz.f26.ntmps = 11 := by kernel_rfl
@[go_sem] theorem f27_en : entersB Tryz.prog 27 = true := by kernel_rfl
@[go_sem] theorem f27_rs : Tryz.f27.results.toList = [.tmp 2] := by kernel_rfl
@[go_sem] theorem f27_nt : Tryz.f27.ntmps = 33 := by kernel_rfl
@[go_sem] theorem f28_en : entersB Tryz.prog 28 = true := by kernel_rfl
@[go_sem] theorem f28_rs : Tryz.f28.results.toList = [.tmp 2] := by kernel_rfl
@[go_sem] theorem f28_nt : Tryz.f28.ntmps = 6 := by kernel_rfl
@[go_sem] theorem f29_en : entersB Tryz.prog 29 = true := by kernel_rfl
@[go_sem] theorem f29_rs : Tryz.f29.results.toList = [.tmp 6, .tmp 7] := by kernel_rfl
@[go_sem] theorem f29_nt : Tryz.f29.ntmps = 69 := by kernel_rfl
@[go_sem] theorem f30_en : entersB Tryz.prog 30 = true := by kernel_rfl
@[go_sem] theorem f30_rs : Tryz.f30.results.toList = [.tmp 4] := by kernel_rfl
@[go_sem] theorem f30_nt : Tryz.f30.ntmps = 26 := by kernel_rfl
@[go_sem] theorem f33_en : entersB Tryz.prog 33 = true := by kernel_rfl
@[go_sem] theorem f33_rs : Tryz.f33.results.toList = [.tmp 4] := by kernel_rfl
@[go_sem] theorem f33_nt : Tryz.f33.ntmps = 8 := by kernel_rfl
@[go_sem] theorem f35_en : entersB Tryz.prog 35 = true := by kernel_rfl
@[go_sem] theorem f35_rs : Tryz.f35.results.toList = [.tmp 4] := by kernel_rfl
@[go_sem] theorem f35_nt : Tryz.f35.ntmps = 9 := by kernel_rfl
@[go_sem] theorem f36_en : entersB Tryz.prog 36 = true := by kernel_rfl
@[go_sem] theorem f36_rs : Tryz.f36.results.toList = [.tmp 4] := by kernel_rfl
@[go_sem] theorem f36_nt : Tryz.f36.ntmps = 9 := by kernel_rfl
@[go_sem] theorem f38_en : entersB Tryz.prog 38 = true := by kernel_rfl
@[go_sem] theorem f38_rs : Tryz.f38.results.toList = [.tmp 4] := by kernel_rfl
@[go_sem] theorem f38_nt : Tryz.f38.ntmps = 19 := by kernel_rfl
@[go_sem] theorem f39_en : entersB Tryz.prog 39 = true := by kernel_rfl
@[go_sem] theorem f39_rs : Tryz.f39.results.toList = [.tmp 2] := by kernel_rfl
@[go_sem] theorem f39_nt : Tryz.f39.ntmps = 12 := by kernel_rfl
@[go_sem] theorem f40_en : entersB Tryz.prog 40 = true := by kernel_rfl
@[go_sem] theorem f41_en : entersB Tryz.prog 41 = true := by kernel_rfl
@[go_sem] theorem f42_en : entersB Tryz.prog 42 = true := by kernel_rfl
@[go_sem] theorem f42_rs : Tryz.f42.results.toList = [.tmp 4] := by kernel_rfl
@[go_sem] theorem f42_nt : Tryz.f42.ntmps = 102 := by kernel_rfl
@[go_sem] theorem f43_en : entersB Tryz.prog 43 = true := by kernel_rfl
@[go_sem] theorem f43_rs : Tryz.f43.results.toList = [.tmp 6] := by kernel_rfl
@[go_sem] theorem f43_nt : Tryz.f43.ntmps = 19 := by kernel_rfl
@[go_sem] theorem f44_en : entersB Tryz.prog 44 = true := by kernel_rfl
@[go_sem] theorem f44_rs : Tryz.f44.results.toList = [.tmp 6] := by kernel_rfl
@[go_sem] theorem f44_nt : Tryz.f44.ntmps = 48 := by kernel_rfl
@[go_sem] theorem f45_en : entersB Tryz.prog 45 = true := by kernel_rfl
@[go_sem] theorem f45_rs : Tryz.f45.results.toList = [.tmp 4] := by kernel_rfl
@[go_sem] theorem f45_nt : Tryz.f45.ntmps = 64 := by kernel_rfl
@[go_sem] theorem f46_en : entersB Tryz.prog 46 = true := by kernel_rfl
@[go_sem] theorem f46_rs : Tryz.f46.results.toList = [.tmp 2] := by kernel_rfl
@[go_sem] theorem f46_nt : Tryz.f46.ntmps = 25 := by kernel_rfl
@[go_sem] theorem f47_en : entersB Tryz.prog 47 = true := by kernel_rfl
@[go_sem] theorem f47_rs : Tryz.f47.results.toList = [.tmp 2, .tmp 3] := by kernel_rfl
@[go_sem] theorem f47_nt : Tryz.f47.ntmps = 37 := by kernel_rfl
@[go_sem] theorem f49_en : entersB Tryz.prog 49 = true := by kernel_rfl
@[go_sem] theorem f49_rs : Tryz.f49.results.toList = [.tmp 4] := by kernel_rfl
@[go_sem] theorem f49_nt : Tryz.f49.ntmps = 11 := by kernel_rfl
@[go_sem] theorem f50_en : entersB Tryz.prog 50 = true := by kernel_rfl
@[go_sem] theorem f50_rs : Tryz.f50.results.toList = [.tmp 4] := by kernel_rfl
@[go_sem] theorem f50_nt : Tryz.f50.ntmps = 19 := by kernel_rfl
@[go_sem] theorem f52_en : entersB Tryz.prog 52 = true := by kernel_rfl
@[go_sem] theorem f52_rs : Tryz.f52.results.toList = [.tmp 2] := by kernel_rfl
@[go_sem] theorem f52_nt : Tryz.f52.ntmps = 54 := by kernel_rfl
@[go_sem] theorem f53_en : entersB Tryz.prog 53 = true := by kernel_rfl
@[go_sem] theorem f53_rs : Tryz.f53.results.toList = [.tmp 2] := by kernel_rfl
@[go_sem] theorem f53_nt : Tryz.f53.ntmps = 11 := by kernel_rfl
@[go_sem] theorem f55_en : entersB Tryz.prog 55 = true := by kernel_rfl
@[go_sem] theorem f57_en : entersB Tryz.prog 57 = true := by kernel_rfl
@[go_sem] theorem f57_rs : Tryz.f57.results.toList = [.tmp 2] := by kernel_rfl
@[go_sem] theorem f57_nt : Tryz.f57.ntmps = 15 := by kernel_rfl
@[go_sem] theorem f58_en : entersB Tryz.prog 58 = true := by kernel_rfl
@[go_sem] theorem f58_rs : Tryz.f58.results.toList = [.tmp 4] := by kernel_rfl
@[go_sem] theorem f58_nt : Tryz.f58.ntmps = 9 := by kernel_rfl
@[go_sem] theorem f59_en : entersB Tryz.prog 59 = true := by kernel_rfl
@[go_sem] theorem f59_rs : Tryz.f59.results.toList = [.tmp 2] := by kernel_rfl
@[go_sem] theorem f59_nt : Tryz.f59.ntmps = 7 := by kernel_rfl
@[go_sem] theorem f60_en : entersB Tryz.prog 60 = true := by kernel_rfl
@[go_sem] theorem f60_rs : Tryz.f60.results.toList = [.tmp 2, .tmp 3] := by kernel_rfl
@[go_sem] theorem f60_nt : Tryz.f60.ntmps = 15 := by kernel_rfl
@[go_sem] theorem f62_en : entersB Tryz.prog 62 = true := by kernel_rfl
@[go_sem] theorem f62_rs : Tryz.f62.results.toList = [.tmp 4] := by kernel_rfl
@[go_sem] theorem f62_nt : Tryz.f62.ntmps = 19 := by kernel_rfl
@[go_sem] theorem f63_rs : Tryz.f63.results.toList = [.tmp 4] := by kernel_rfl
@[go_sem] theorem f63_nt : Tryz.f63.ntmps = 19 := by kernel_rfl
@[go_sem] theorem f64_en : entersB Tryz.prog 64 = true := by kernel_rfl
@[go_sem] theorem f64_rs : Tryz.f64.results.toList = [.tmp 4] := by kernel_rfl
@[go_sem] theorem f64_nt : Tryz.f64.ntmps = 19 := by kernel_rfl
@[go_sem] theorem f65_rs : Tryz.f65.results.toList = [.tmp 3] := by kernel_rfl
@[go_sem] theorem f65_nt : Tryz.f65.ntmps = 8 := by kernel_rfl
@[go_sem] theorem f67_en : entersB Tryz.prog 67 = true := by kernel_rfl
@[go_sem] theorem f67_rs : Tryz.f67.results.toList = [.tmp 2] := by kernel_rfl
@[go_sem] theorem f67_nt : Tryz.f67.ntmps = 14 := by kernel_rfl
@[go_sem] theorem f69_en : entersB Tryz.prog 69 = true := by kernel_rfl
@[go_sem] theorem f69_rs : Tryz.f69.results.toList = [.tmp 2] := by kernel_rfl
@[go_sem] theorem f69_nt : Tryz.f69.ntmps = 15 := by kernel_rfl
@[go_sem] theorem f70_en : entersB Tryz.prog 70 = true := by kernel_rfl
@[go_sem] theorem f70_rs : Tryz.f70.results.toList = [.tmp 2, .tmp 3] := by kernel_rfl
@[go_sem] theorem f70_nt : Tryz.f70.ntmps = 15 := by kernel_rfl
@[go_sem] theorem f71_en : entersB Tryz.prog 71 = true := by kernel_rfl
@[go_sem] theorem f71_rs : Tryz.f71.results.toList = [.cell 6 99, .tmp 7] := by kernel_rfl
@[go_sem] theorem f71_nt : Tryz.f71.ntmps = 39 := by kernel_rfl
@[go_sem] theorem f72_en : entersB Tryz.prog 72 = true := by kernel_rfl
@[go_sem] theorem f72_rs : Tryz.f72.results.toList = [.tmp 4] := by kernel_rfl
@[go_sem] theorem f72_nt : Tryz.f72.ntmps = 39 := by kernel_rfl
@[go_sem] theorem f73_en : entersB Tryz.prog 73 = true := by kernel_rfl
@[go_sem] theorem f73_rs : Tryz.f73.results.toList = [.tmp 4] := by kernel_rfl
@[go_sem] theorem f73_nt : Tryz.f73.ntmps = 25 := by kernel_rfl
@[go_sem] theorem f74_en : entersB Tryz.prog 74 = true := by kernel_rfl
@[go_sem] theorem f74_rs : Tryz.f74.results.toList = [.tmp 2] := by kernel_rfl
@[go_sem] theorem f74_nt : Tryz.f74.ntmps = 20 := by kernel_rfl
@[go_sem] theorem f75_en : entersB Tryz.prog 75 = true := by kernel_rfl
@[go_sem] theorem f75_rs : Tryz.f75.results.toList = [.tmp 2] := by kernel_rfl
@[go_sem] theorem f75_nt : Tryz.f75.ntmps = 42 := by kernel_rfl
@[go_sem] theorem f76_en : entersB Tryz.prog 76 = true := by kernel_rfl
@[go_sem] theorem f76_rs : Tryz.f76.results.toList = [.tmp 2] := by kernel_rfl
@[go_sem] theorem f76_nt : Tryz.f76.ntmps = 6 := by kernel_rfl
@[go_sem] theorem f77_en : entersB Tryz.prog 77 = true := by kernel_rfl
@[go_sem] theorem f77_rs : Tryz.f77.results.toList = [.tmp 4, .tmp 5] := by kernel_rfl
@[go_sem] theorem f77_nt : Tryz.f77.ntmps = 49 := by kernel_rfl
@[go_sem] theorem f78_en : entersB Tryz.prog 78 = true := by kernel_rfl
@[go_sem] theorem f78_rs : Tryz.f78.results.toList = [.tmp 2] := by kernel_rfl
@[go_sem] theorem f78_nt : Tryz.f78.ntmps = 4 := by kernel_rfl
@[go_sem] theorem f79_en : entersB Tryz.prog 79 = true := by kernel_rfl
@[go_sem] theorem f79_rs : Tryz.f79.results.toList = [.cell 6 117] := by kernel_rfl
@[go_sem] theorem f79_nt : Tryz.f79.ntmps = 58 := by kernel_rfl
@[go_sem] theorem f80_en : entersB Tryz.prog 80 = true := by kernel_rfl
@[go_sem] theorem f81_en : entersB Tryz.prog 81 = true := by kernel_rfl
@[go_sem] theorem f81_rs : Tryz.f81.results.toList = [.tmp 2] := by kernel_rfl
@[go_sem] theorem f81_nt : Tryz.f81.ntmps = 8 := by kernel_rfl
@[go_sem] theorem f82_en : entersB Tryz.prog 82 = true := by kernel_rfl
@[go_sem] theorem f82_rs : Tryz.f82.results.toList = [.tmp 2] := by kernel_rfl
@[go_sem] theorem f82_nt : Tryz.f82.ntmps = 35 := by kernel_rfl
@[go_sem] theorem f83_en : entersB Tryz.prog 83 = true := by kernel_rfl
@[go_sem] theorem f83_rs : Tryz.f83.results.toList = [.tmp 2] := by kernel_rfl
@[go_sem] theorem f83_nt : Tryz.f83.ntmps = 5 := by kernel_rfl
@[go_sem] theorem f84_en : entersB Tryz.prog 84 = true := by kernel_rfl
@[go_sem] theorem f84_rs : Tryz.f84.results.toList = [.tmp 4] := by kernel_rfl
@[go_sem] theorem f84_nt : Tryz.f84.ntmps = 80 := by kernel_rfl
@[go_sem] theorem f85_en : entersB Tryz.prog 85 = true := by kernel_rfl
@[go_sem] theorem f85_rs : Tryz.f85.results.toList = [.cell 6 126] := by kernel_rfl
@[go_sem] theorem f85_nt : Tryz.f85.ntmps = 73 := by kernel_rfl
@[go_sem] theorem f86_en : entersB Tryz.prog 86 = true := by kernel_rfl
@[go_sem] theorem f86_rs : Tryz.f86.results.toList = [.tmp 0] := by kernel_rfl
@[go_sem] theorem f86_nt : Tryz.f86.ntmps = 2 := by kernel_rfl
@[go_sem] theorem f92_rs : Tryz.f92.results.toList = [.tmp 3] := by kernel_rfl
@[go_sem] theorem f92_nt : Tryz.f92.ntmps = 8 := by kernel_rfl
@[go_sem] theorem f93_en : entersB Tryz.prog 93 = true := by kernel_rfl
@[go_sem] theorem f93_rs : Tryz.f93.results.toList = [.tmp 2, .tmp 3, .tmp 4] := by kernel_rfl
@[go_sem] theorem f93_nt : Tryz.f93.ntmps = 56 := by kernel_rfl
@[go_sem] theorem f97_rs : Tryz.f97.results.toList = [.tmp 2] := by kernel_rfl
@[go_sem] theorem f97_nt : Tryz.f97.ntmps = 7 := by kernel_rfl
@[go_sem] theorem f98_rs : Tryz.f98.results.toList = [.tmp 3] := by kernel_rfl
@[go_sem] theorem f98_nt : Tryz.f98.ntmps = 24 := by kernel_rfl
@[go_sem] theorem f99_en : entersB Tryz.prog 99 = true := by kernel_rfl
@[go_sem] theorem f99_rs : Tryz.f99.results.toList = [.tmp 4] := by kernel_rfl
@[go_sem] theorem f99_nt : Tryz.f99.ntmps = 16 := by kernel_rfl
@[go_sem] theorem f100_en : entersB Tryz.prog 100 = true := by kernel_rfl
@[go_sem] theorem f100_rs : Tryz.f100.results.toList = [.tmp 2] := by kernel_rfl
@[go_sem] theorem f100_nt : Tryz.f100.ntmps = 4 := by kernel_rfl
@[go_sem] theorem f101_rs : Tryz.f101.results.toList = [.tmp 4] := by kernel_rfl
@[go_sem] theorem f101_nt : Tryz.f101.ntmps = 17 := by kernel_rfl
@[go_sem] theorem f102_rs : Tryz.f102.results.toList = [.tmp 3] := by kernel_rfl
@[go_sem] theorem f102_nt : Tryz.f102.ntmps = 8 := by kernel_rfl
@[go_sem] theorem f103_en : entersB Tryz.prog 103 = true := by kernel_rfl
@[go_sem] theorem f103_rs : Tryz.f103.results.toList = [.tmp 4] := by kernel_rfl
@[go_sem] theorem f103_nt : Tryz.f103.ntmps = 42 := by kernel_rfl
@[go_sem] theorem f104_rs : Tryz.f104.results.toList = [.tmp 3] := by kernel_rfl
@[go_sem] theorem f104_nt : Tryz.f104.ntmps = 8 := by kernel_rfl
@[go_sem] theorem f105_en : entersB Tryz.prog 105 = true := by kernel_rfl
@[go_sem] theorem f105_rs : Tryz.f105.results.toList = [] := by kernel_rfl
@[go_sem] theorem f105_nt : Tryz.f105.ntmps = 34 := by kernel_rfl
@[go_sem] theorem f106_rs : Tryz.f106.results.toList = [] := by kernel_rfl
@[go_sem] theorem f106_nt : Tryz.f106.ntmps = 9 := by kernel_rfl
@[go_sem] theorem f107_en : entersB Tryz.prog 107 = true := by kernel_rfl
@[go_sem] theorem f107_rs : Tryz.f107.results.toList = [] := by kernel_rfl
@[go_sem] theorem f107_nt : Tryz.f107.ntmps = 11 := by kernel_rfl
@[go_sem] theorem f108_en : entersB Tryz.prog 108 = true := by kernel_rfl
@[go_sem] theorem f108_rs : Tryz.f108.results.toList = [.tmp 2] := by kernel_rfl
@[go_sem] theorem f108_nt : Tryz.f108.ntmps = 61 := by kernel_rfl
@[go_sem] theorem f111_en : entersB Tryz.prog 111 = true := by kernel_rfl
@[go_sem] theorem f111_rs : Tryz.f111.results.toList = [.tmp 6] := by kernel_rfl
@[go_sem] theorem f111_nt : Tryz.f111.ntmps = 15 := by kernel_rfl
@[go_sem] theorem f112_en : entersB Tryz.prog 112 = true := by kernel_rfl
@[go_sem] theorem f112_rs : Tryz.f112.results.toList = [.tmp 4] := by kernel_rfl
@[go_sem] theorem f112_nt : Tryz.f112.ntmps = 18 := by kernel_rfl
@[go_sem] theorem f113_en : entersB Tryz.prog 113 = true := by kernel_rfl
@[go_sem] theorem f113_rs : Tryz.f113.results.toList = [.tmp 4] := by kernel_rfl
@[go_sem] theorem f113_nt : Tryz.f113.ntmps = 8 := by kernel_rfl
@[go_sem] theorem f114_en : entersB Tryz.prog 114 = true := by kernel_rfl
@[go_sem] theorem f114_rs : Tryz.f114.results.toList = [.cell 2 173, .tmp 3, .tmp 4] := by kernel_rfl
@[go_sem] theorem f114_nt : Tryz.f114.ntmps = 52 := by kernel_rfl
@[go_sem] theorem f115_rs : Tryz.f115.results.toList = [.tmp 3] := by kernel_rfl
@[go_sem] theorem f115_nt : Tryz.f115.ntmps = 8 := by kernel_rfl
@[go_sem] theorem f117_en : entersB Tryz.prog 117 = true := by kernel_rfl
@[go_sem] theorem f117_rs : Tryz.f117.results.toList = [.tmp 2] := by kernel_rfl
@[go_sem] theorem f117_nt : Tryz.f117.ntmps = 23 := by kernel_rfl
@[go_sem] theorem f118_en : entersB Tryz.prog 118 = true := by kernel_rfl
@[go_sem] theorem f118_rs : Tryz.f118.results.toList = [.tmp 2] := by kernel_rfl
@[go_sem] theorem f118_nt : Tryz.f118.ntmps = 12 := by kernel_rfl
@[go_sem] theorem f119_en : entersB Tryz.prog 119 = true := by kernel_rfl
@[go_sem] theorem f119_rs : Tryz.f119.results.toList = [.cell 6 117] := by kernel_rfl
@[go_sem] theorem f119_nt : Tryz.f119.ntmps = 107 := by kernel_rfl
@[go_sem] theorem f120_en : entersB Tryz.prog 120 = true := by kernel_rfl
@[go_sem] theorem f120_rs : Tryz.f120.results.toList = [.cell 4 99] := by kernel_rfl
@[go_sem] theorem f120_nt : Tryz.f120.ntmps = 16 := by kernel_rfl
@[go_sem] theorem f121_en : entersB Tryz.prog 121 = true := by kernel_rfl
@[go_sem] theorem f121_rs : Tryz.f121.results.toList = [.cell 2 99] := by kernel_rfl
@[go_sem] theorem f121_nt : Tryz.f121.ntmps = 13 := by kernel_rfl
@[go_sem] theorem f122_en : entersB Tryz.prog 122 = true := by kernel_rfl
@[go_sem] theorem f122_rs : Tryz.f122.results.toList = [.tmp 4] := by kernel_rfl
@[go_sem] theorem f122_nt : Tryz.f122.ntmps = 75 := by kernel_rfl
@[go_sem] theorem f123_en : entersB Tryz.prog 123 = true := by kernel_rfl
@[go_sem] theorem f123_rs : Tryz.f123.results.toList = [.tmp 2] := by kernel_rfl
@[go_sem] theorem f123_nt : Tryz.f123.ntmps = 35 := by kernel_rfl
@[go_sem] theorem f124_en : entersB Tryz.prog 124 = true := by kernel_rfl
@[go_sem] theorem f124_rs : Tryz.f124.results.toList = [.tmp 6] := by kernel_rfl
@[go_sem] theorem f124_nt : Tryz.f124.ntmps = 15 := by kernel_rfl
@[go_sem] theorem f125_rs : Tryz.f125.results.toList = [] := by kernel_rfl
@[go_sem] theorem f125_nt : Tryz.f125.ntmps = 14 := by kernel_rfl
@[go_sem] theorem f126_rs : Tryz.f126.results.toList = [] := by kernel_rfl
@[go_sem] theorem f126_nt : Tryz.f126.ntmps = 19 := by kernel_rfl
@[go_sem] theorem f127_en : entersB Tryz.prog 127 = true := by kernel_rfl
@[go_sem] theorem f127_rs : Tryz.f127.results.toList = [.cell 5 117] := by kernel_rfl
@[go_sem] theorem f127_nt : Tryz.f127.ntmps = 36 := by kernel_rfl
@[go_sem] theorem f128_en : entersB Tryz.prog 128 = true := by kernel_rfl
@[go_sem] theorem f128_rs : Tryz.f128.results.toList = [.tmp 4] := by kernel_rfl
@[go_sem] theorem f128_nt : Tryz.f128.ntmps = 20 := by kernel_rfl
@[go_sem] theorem f129_en : entersB Tryz.prog 129 = true := by kernel_rfl
@[go_sem] theorem f129_rs : Tryz.f129.results.toList = [.tmp 6, .tmp 7] := by kernel_rfl
@[go_sem] theorem f129_nt : Tryz.f129.ntmps = 49 := by kernel_rfl
@[go_sem] theorem f130_rs : Tryz.f130.results.toList = [.tmp 4] := by kernel_rfl
@[go_sem] theorem f130_nt : Tryz.f130.ntmps = 9 := by kernel_rfl
@[go_sem] theorem f131_en : entersB Tryz.prog 131 = true := by kernel_rfl
@[go_sem] theorem f131_rs : Tryz.f131.results.toList = [.cell 0 117] := by kernel_rfl
@[go_sem] theorem f131_nt : Tryz.f131.ntmps = 2 := by kernel_rfl
@[go_sem] theorem f133_en : entersB Tryz.prog 133 = true := by kernel_rfl
@[go_sem] theorem f133_rs : Tryz.f133.results.toList = [.tmp 2] := by kernel_rfl
@[go_sem] theorem f133_nt : Tryz.f133.ntmps = 27 := by kernel_rfl
@[go_sem] theorem f134_en : entersB Tryz.prog 134 = true := by kernel_rfl
@[go_sem] theorem f134_rs : Tryz.f134.results.toList = [] := by kernel_rfl
@[go_sem] theorem f134_nt : Tryz.f134.ntmps = 11 := by kernel_rfl
@[go_sem] theorem f135_en : entersB Tryz.prog 135 = true := by kernel_rfl
@[go_sem] theorem f135_rs : Tryz.f135.results.toList = [.tmp 4] := by kernel_rfl
@[go_sem] theorem f135_nt : Tryz.f135.ntmps = 9 := by kernel_rfl
@[go_sem] theorem f136_en : entersB Tryz.prog 136 = true := by kernel_rfl
@[go_sem] theorem f136_rs : Tryz.f136.results.toList = [.tmp 2] := by kernel_rfl
@[go_sem] theorem f136_nt : Tryz.f136.ntmps = 26 := by kernel_rfl
@[go_sem] theorem f137_en : entersB Tryz.prog 137 = true := by kernel_rfl
@[go_sem] theorem f137_rs : Tryz.f137.results.toList = [.cell 6 126] := by kernel_rfl
@[go_sem] theorem f137_nt : Tryz.f137.ntmps = 44 := by kernel_rfl
@[go_sem] theorem f138_en : entersB Tryz.prog 138 = true := by kernel_rfl
@[go_sem] theorem f138_rs : Tryz.f138.results.toList = [.cell 0 126] := by kernel_rfl
@[go_sem] theorem f138_nt : Tryz.f138.ntmps = 2 := by kernel_rfl
@[go_sem] theorem f139_en : entersB Tryz.prog 139 = true := by kernel_rfl
@[go_sem] theorem f139_rs : Tryz.f139.results.toList = [.cell 6 126] := by kernel_rfl
@[go_sem] theorem f139_nt : Tryz.f139.ntmps = 103 := by kernel_rfl
@[go_sem] theorem f140_en : entersB Tryz.prog 140 = true := by kernel_rfl
@[go_sem] theorem f140_rs : Tryz.f140.results.toList = [.cell 4 126] := by kernel_rfl
@[go_sem] theorem f140_nt : Tryz.f140.ntmps = 19 := by kernel_rfl
@[go_sem] theorem f152_en : entersB Tryz.prog 152 = true := by kernel_rfl
@[go_sem] theorem f152_rs : Tryz.f152.results.toList = [.cell 4 214] := by kernel_rfl
@[go_sem] theorem f152_nt : Tryz.f152.ntmps = 127 := by kernel_rfl
@[go_sem] theorem f153_en : entersB Tryz.prog 153 = true := by kernel_rfl
@[go_sem] theorem f153_rs : Tryz.f153.results.toList = [.tmp 2] := by kernel_rfl
@[go_sem] theorem f153_nt : Tryz.f153.ntmps = 7 := by kernel_rfl
@[go_sem] theorem f154_en : entersB Tryz.prog 154 = true := by kernel_rfl
@[go_sem] theorem f154_rs : Tryz.f154.results.toList = [.tmp 2] := by kernel_rfl
@[go_sem] theorem f154_nt : Tryz.f154.ntmps = 18 := by kernel_rfl
@[go_sem] theorem f164_en : entersB Tryz.prog 164 = true := by kernel_rfl
@[go_sem] theorem f164_rs : Tryz.f164.results.toList = [] := by kernel_rfl
@[go_sem] theorem f164_nt : Tryz.f164.ntmps = 134 := by kernel_rfl
@[go_sem] theorem f165_en : entersB Tryz.prog 165 = true := by kernel_rfl
@[go_sem] theorem f165_rs : Tryz.f165.results.toList = [.tmp 2] := by kernel_rfl
@[go_sem] theorem f165_nt : Tryz.f165.ntmps = 8 := by kernel_rfl
@[go_sem] theorem f167_en : entersB Tryz.prog 167 = true := by kernel_rfl
@[go_sem] theorem f167_rs : Tryz.f167.results.toList = [.tmp 4] := by kernel_rfl
@[go_sem] theorem f167_nt : Tryz.f167.ntmps = 8 := by kernel_rfl
@[go_sem] theorem f168_en : entersB Tryz.prog 168 = true := by kernel_rfl
@[go_sem] theorem f168_rs : Tryz.f168.results.toList = [.tmp 4] := by kernel_rfl
@[go_sem] theorem f168_nt : Tryz.f168.ntmps = 143 := by kernel_rfl
@[go_sem] theorem f169_en : entersB Tryz.prog 169 = true := by kernel_rfl
@[go_sem] theorem f169_rs : Tryz.f169.results.toList = [.tmp 2] := by kernel_rfl
@[go_sem] theorem f169_nt : Tryz.f169.ntmps = 94 := by kernel_rfl
@[go_sem] theorem f170_en : entersB Tryz.prog 170 = true := by kernel_rfl
@[go_sem] theorem f170_rs : Tryz.f170.results.toList = [.cell 2 173] := by kernel_rfl
@[go_sem] theorem f170_nt : Tryz.f170.ntmps = 36 := by kernel_rfl
@[go_sem] theorem f171_en : entersB Tryz.prog 171 = true := by kernel_rfl
@[go_sem] theorem f171_rs : Tryz.f171.results.toList = [.tmp 2] := by kernel_rfl
@[go_sem] theorem f171_nt : Tryz.f171.ntmps = 10 := by kernel_rfl
@[go_sem] theorem f172_en : entersB Tryz.prog 172 = true := by kernel_rfl
@[go_sem] theorem f172_rs : Tryz.f172.results.toList = [.cell 2 173] := by kernel_rfl
@[go_sem] theorem f172_nt : Tryz.f172.ntmps = 19 := by kernel_rfl
@[go_sem] theorem f173_en : entersB Tryz.prog 173 = true := by kernel_rfl
@[go_sem] theorem f173_rs : Tryz.f173.results.toList = [.cell 5 117] := by kernel_rfl
@[go_sem] theorem f173_nt : Tryz.f173.ntmps = 16 := by kernel_rfl
@[go_sem] theorem f174_en : entersB Tryz.prog 174 = true := by kernel_rfl
@[go_sem] theorem f174_rs : Tryz.f174.results.toList = [.cell 6 117] := by kernel_rfl
@[go_sem] theorem f174_nt : Tryz.f174.ntmps = 20 := by kernel_rfl
@[go_sem] theorem f175_en : entersB Tryz.prog 175 = true := by kernel_rfl
@[go_sem] theorem f175_rs : Tryz.f175.results.toList = [.cell 4 117] := by kernel_rfl
@[go_sem] theorem f175_nt : Tryz.f175.ntmps = 10 := by kernel_rfl
@[go_sem] theorem f176_en : entersB Tryz.prog 176 = true := by kernel_rfl
@[go_sem] theorem f176_rs : Tryz.f176.results.toList = [.cell 6 117] := by kernel_rfl
@[go_sem] theorem f176_nt : Tryz.f176.ntmps = 88 := by kernel_rfl
@[go_sem] theorem f177_en : entersB Tryz.prog 177 = true := by kernel_rfl
@[go_sem] theorem f177_rs : Tryz.f177.results.toList = [.tmp 2] := by kernel_rfl
@[go_sem] theorem f177_nt : Tryz.f177.ntmps = 25 := by kernel_rfl
@[go_sem] theorem f178_en : entersB Tryz.prog 178 = true := by kernel_rfl
@[go_sem] theorem f178_rs : Tryz.f178.results.toList = [.tmp 6, .tmp 7] := by kernel_rfl
@[go_sem] theorem f178_nt : Tryz.f178.ntmps = 49 := by kernel_rfl
@[go_sem] theorem f179_rs : Tryz.f179.results.toList = [.tmp 4] := by kernel_rfl
@[go_sem] theorem f179_nt : Tryz.f179.ntmps = 9 := by kernel_rfl
@[go_sem] theorem f180_en : entersB Tryz.prog 180 = true := by kernel_rfl
@[go_sem] theorem f180_rs : Tryz.f180.results.toList = [.tmp 4] := by kernel_rfl
@[go_sem] theorem f180_nt : Tryz.f180.ntmps = 8 := by kernel_rfl
@[go_sem] theorem f182_en : entersB Tryz.prog 182 = true := by kernel_rfl
@[go_sem] theorem f182_rs : Tryz.f182.results.toList = [.tmp 4] := by kernel_rfl
@[go_sem] theorem f182_nt : Tryz.f182.ntmps = 19 := by kernel_rfl
@[go_sem] theorem f183_en : entersB Tryz.prog 183 = true := by kernel_rfl
@[go_sem] theorem f183_rs : Tryz.f183.results.toList = [.tmp 2] := by kernel_rfl
@[go_sem] theorem f183_nt : Tryz.f183.ntmps = 4 := by kernel_rfl
@[go_sem] theorem f184_en : entersB Tryz.prog 184 = true := by kernel_rfl
@[go_sem] theorem f184_rs : Tryz.f184.results.toList = [.tmp 4, .tmp 5] := by kernel_rfl
@[go_sem] theorem f184_nt : Tryz.f184.ntmps = 88 := by kernel_rfl
@[go_sem] theorem f191_en : entersB Tryz.prog 191 = true := by kernel_rfl
@[go_sem] theorem f191_rs : Tryz.f191.results.toList = [.tmp 2] := by kernel_rfl
@[go_sem] theorem f191_nt : Tryz.f191.ntmps = 9 := by kernel_rfl
@[go_sem] theorem f192_en : entersB Tryz.prog 192 = true := by kernel_rfl
@[go_sem] theorem f192_rs : Tryz.f192.results.toList = [.tmp 2] := by kernel_rfl
@[go_sem] theorem f192_nt : Tryz.f192.ntmps = 9 := by kernel_rfl
@[go_sem] theorem f193_en : entersB Tryz.prog 193 = true := by kernel_rfl
@[go_sem] theorem f193_rs : Tryz.f193.results.toList = [.tmp 8] := by kernel_rfl
@[go_sem] theorem f193_nt : Tryz.f193.ntmps = 54 := by kernel_rfl
@[go_sem] theorem f194_rs : Tryz.f194.results.toList = [.tmp 2] := by kernel_rfl
@[go_sem] theorem f194_nt : Tryz.f194.ntmps = 7 := by kernel_rfl
@[go_sem] theorem f206_en : entersB Tryz.prog 206 = true := by kernel_rfl
@[go_sem] theorem f206_rs : Tryz.f206.results.toList = [] := by kernel_rfl
@[go_sem] theorem f206_nt : Tryz.f206.ntmps = 49 := by kernel_rfl
@[go_sem] theorem f216_en : entersB Tryz.prog 216 = true := by kernel_rfl
@[go_sem] theorem f216_rs : Tryz.f216.results.toList = [.tmp 2] := by kernel_rfl
@[go_sem] theorem f216_nt : Tryz.f216.ntmps = 25 := by kernel_rfl
@[go_sem] theorem f217_en : entersB Tryz.prog 217 = true := by kernel_rfl
@[go_sem] theorem f217_rs : Tryz.f217.results.toList = [.tmp 4] := by kernel_rfl
@[go_sem] theorem f217_nt : Tryz.f217.ntmps = 8 := by kernel_rfl
@[go_sem] theorem f221_en : entersB Tryz.prog 221 = true := by kernel_rfl
@[go_sem] theorem f221_rs : Tryz.f221.results.toList = [.cell 6 173] := by kernel_rfl
@[go_sem] theorem f221_nt : Tryz.f221.ntmps = 35 := by kernel_rfl
@[go_sem] theorem f222_rs : Tryz.f222.results.toList = [.cell 1 173] := by kernel_rfl
@[go_sem] theorem f222_nt : Tryz.f222.ntmps = 6 := by kernel_rfl
@[go_sem] theorem f223_en : entersB Tryz.prog 223 = true := by kernel_rfl
@[go_sem] theorem f223_rs : Tryz.f223.results.toList = [.cell 2 173] := by kernel_rfl
@[go_sem] theorem f223_nt : Tryz.f223.ntmps = 89 := by kernel_rfl
@[go_sem] theorem f224_en : entersB Tryz.prog 224 = true := by kernel_rfl
@[go_sem] theorem f224_rs : Tryz.f224.results.toList = [.cell 2 293] := by kernel_rfl
@[go_sem] theorem f224_nt : Tryz.f224.ntmps = 47 := by kernel_rfl
@[go_sem] theorem f225_rs : Tryz.f225.results.toList = [.cell 1 173] := by kernel_rfl
@[go_sem] theorem f225_nt : Tryz.f225.ntmps = 6 := by kernel_rfl
@[go_sem] theorem f226_en : entersB Tryz.prog 226 = true := by kernel_rfl
@[go_sem] theorem f226_rs : Tryz.f226.results.toList = [.tmp 4] := by kernel_rfl
@[go_sem] theorem f226_nt : Tryz.f226.ntmps = 22 := by kernel_rfl
@[go_sem] theorem f227_en : entersB Tryz.prog 227 = true := by kernel_rfl
@[go_sem] theorem f227_rs : Tryz.f227.results.toList = [.tmp 4] := by kernel_rfl
@[go_sem] theorem f227_nt : Tryz.f227.ntmps = 8 := by kernel_rfl
@[go_sem] theorem f246_en : entersB Tryz.prog 246 = true := by kernel_rfl
@[go_sem] theorem f246_rs : Tryz.f246.results.toList = [] := by kernel_rfl
@[go_sem] theorem f246_nt : Tryz.f246.ntmps = 42 := by kernel_rfl
@[go_sem] theorem f247_rs : Tryz.f247.results.toList = [.tmp 2] := by kernel_rfl
@[go_sem] theorem f247_nt : Tryz.f247.ntmps = 7 := by kernel_rfl
@[go_sem] theorem f264_en : entersB Tryz.prog 264 = true := by kernel_rfl
@[go_sem] theorem f264_rs : Tryz.f264.results.toList = [.tmp 4, .tmp 5] := by kernel_rfl
@[go_sem] theorem f264_nt : Tryz.f264.ntmps = 21 := by kernel_rfl
@[go_sem] theorem f265_en : entersB Tryz.prog 265 = true := by kernel_rfl
@[go_sem] theorem f265_rs : Tryz.f265.results.toList = [] := by kernel_rfl
@[go_sem] theorem f265_nt : Tryz.f265.ntmps = 18 := by kernel_rfl
@[go_sem] theorem f266_en : entersB Tryz.prog 266 = true := by kernel_rfl
@[go_sem] theorem f266_rs : Tryz.f266.results.toList = [.cell 2 173] := by kernel_rfl
@[go_sem] theorem f266_nt : Tryz.f266.ntmps = 107 := by kernel_rfl
@[go_sem] theorem f275_en : entersB Tryz.prog 275 = true := by kernel_rfl
@[go_sem] theorem f275_rs : Tryz.f275.results.toList = [.tmp 2] := by kernel_rfl
@[go_sem] theorem f275_nt : Tryz.f275.ntmps = 87 := by kernel_rfl
@[go_sem] theorem f287_en : entersB Tryz.prog 287 = true := by kernel_rfl
@[go_sem] theorem f287_rs : Tryz.f287.results.toList = [.tmp 4, .tmp 5] := by kernel_rfl
@[go_sem] theorem f287_nt : Tryz.f287.ntmps = 38 := by kernel_rfl
@[go_sem] theorem f288_en : entersB Tryz.prog 288 = true := by kernel_rfl
@[go_sem] theorem f288_rs : Tryz.f288.results.toList = [.tmp 4] := by kernel_rfl
@[go_sem] theorem f288_nt : Tryz.f288.ntmps = 20 := by kernel_rfl
@[go_sem] theorem f292_en : entersB Tryz.prog 292 = true := by kernel_rfl
@[go_sem] theorem f292_rs : Tryz.f292.results.toList = [.tmp 4] := by kernel_rfl
@[go_sem] theorem f292_nt : Tryz.f292.ntmps = 20 := by kernel_rfl
@[go_sem] theorem f293_en : entersB Tryz.prog 293 = true := by kernel_rfl
@[go_sem] theorem f293_rs : Tryz.f293.results.toList = [.tmp 2] := by kernel_rfl
@[go_sem] theorem f293_nt : Tryz.f293.ntmps = 26 := by kernel_rfl
@[go_sem] theorem f294_en : entersB Tryz.prog 294 = true := by kernel_rfl
@[go_sem] theorem f295_en : entersB Tryz.prog 295 = true := by kernel_rfl
@[go_sem] theorem f295_rs : Tryz.f295.results.toList = [.tmp 4] := by kernel_rfl
@[go_sem] theorem f295_nt : Tryz.f295.ntmps = 62 := by kernel_rfl
@[go_sem] theorem f296_en : entersB Tryz.prog 296 = true := by kernel_rfl
@[go_sem] theorem f296_rs : Tryz.f296.results.toList = [.tmp 4] := by kernel_rfl
@[go_sem] theorem f296_nt : Tryz.f296.ntmps = 44 := by kernel_rfl
@[go_sem] theorem f304_en : entersB Tryz.prog 304 = true := by kernel_rfl
@[go_sem] theorem f304_rs : Tryz.f304.results.toList = [.tmp 4] := by kernel_rfl
@[go_sem] theorem f304_nt : Tryz.f304.ntmps = 18 := by kernel_rfl
@[go_sem] theorem f305_en : entersB Tryz.prog 305 = true := by kernel_rfl
@[go_sem] theorem f305_rs : Tryz.f305.results.toList = [.tmp 4] := by kernel_rfl
@[go_sem] theorem f305_nt : Tryz.f305.ntmps = 8 := by kernel_rfl
@[go_sem] theorem f308_en : entersB Tryz.prog 308 = true := by kernel_rfl
@[go_sem] theorem f308_rs : Tryz.f308.results.toList = [] := by kernel_rfl
@[go_sem] theorem f308_nt : Tryz.f308.ntmps = 19 := by kernel_rfl
@[go_sem] theorem f309_en : entersB Tryz.prog 309 = true := by kernel_rfl
@[go_sem] theorem f309_rs : Tryz.f309.results.toList = [.tmp 4] := by kernel_rfl
@[go_sem] theorem f309_nt : Tryz.f309.ntmps = 13 := by kernel_rfl
@[go_sem] theorem f262_en : entersB Tryz.prog 262 = false := by kernel_rfl
@[go_sem] theorem f267_en : entersB Tryz.prog 267 = false := by kernel_rfl
end Go.Proofs.YtagoolooikpabaaGreatDoor
namespace Go.Proofs.YtagoolooikpabaaGreatDoor
open Go Go.RowKit
set_option maxRecDepth 100000
def errGo {α : Type} (f : Nat → α → α → Int) : Nat → α → List α → Int
 | _, _, [] => 0
 | i, p, x :: t => if f i p x = 0 then errGo f (i + 1) x t else f i p x
def prv {α : Type} (p0 : α) (l : List α) (k : Nat) : α := (p0 :: l).getD k p0
theorem prv_succ {α : Type} (p0 : α) (l : List α) (k : Nat) (h : k < l.length) : prv p0 l (k + 1) = l[k] := by simp [prv, List.getD, h]
theorem prv_pos {α : Type} (p0 : α) (l : List α) (k : Nat) (h : k ≤ l.length) (h0 : 0 < k) : prv p0 l k = l[k - 1]'oMg := by
 obtain ⟨j, rfl⟩ : ∃ j, k = j + 1 := ⟨k - 1, by omega⟩
 rw [prv_succ p0 l j oMg]; rfl
theorem errGo_step {α : Type} (f : Nat → α → α → Int) (p0 : α) (l : List α) (k : Nat) (h : k < l.length) :
  errGo f k (prv p0 l k) (l.drop k) = if f k (prv p0 l k) l[k] = 0 then errGo f (k + 1) (prv p0 l (k + 1)) (l.drop (k + 1)) else f k (prv p0 l k) l[k] := by
 rw [prv_succ p0 l k h, List.drop_eq_getElem_cons h]; rfl
theorem errGo_end {α : Type} (f : Nat → α → α → Int) (p : α) (l : List α) (k : Nat) (h : l.length ≤ k) : errGo f k p (l.drop k) = 0 := by
 rw [List.drop_eq_nil_of_le h]; rfl
theorem errGo_snoc {α : Type} (f : Nat → α → α → Int) (x : α) : ∀ (l : List α) (i : Nat) (p : α), errGo f i p l = 0 → errGo f i p (l ++ [x]) = f (i + l.length) (l.getLast?.getD p) x
 | [], i, p, _ => by
  simp only [List.nil_append, errGo, List.length_nil, Nat.add_zero, List.getLast?_nil, Option.getD_none]
  split <;> simp_all
 | y :: t, i, p, h => by
  simp only [errGo] at h
  split at h
  ·rename_i h0
   rw [List.cons_append]
   simp only [errGo, h0, if_true]
   rw [errGo_snoc f x t (i + 1) y h]
   congr 1
   ·simp; omega
   ·cases t with
    | nil => rfl
    | cons z t =>
     rw [List.getLast?_cons_cons]
     cases h9 : (z :: t).getLast? with
     | none => simp at h9
     | some u => rfl
  ·rename_i h0; exact absurd h h0
structure Level where
 step : Int
 keep : Int
deriving DecidableEq
def upDiv (a b : Int) : Int := (a + b - 1) / b
def costL (x : Level) (rate : Int) : Int := if x.step = 0 then upDiv (x.keep * rate) 3600000 else upDiv x.keep x.step + 1
def Level.ok (x : Level) : Prop := 0 ≤ x.step ∧ x.step ≤ 86400000 ∧ 1 ≤ x.keep ∧ x.keep ≤ 345686400000
def costs (l : List Level) (rate : Int) : Int := (l.map (costL · rate)).sum
def firstE : List Int → Int
 | [] => 0
 | x :: t => if x = 0 then firstE t else x
theorem firstE_drop (l : List Int) (k : Nat) (h : k < l.length) : firstE (l.drop k) = if l[k] = 0 then firstE (l.drop (k + 1)) else l[k] := by
 rw [List.drop_eq_getElem_cons h]; rfl
def mostL (x : Level) (rate budget : Int) : Int := if x.step = 0 then budget * 3600000 / rate else (budget - 1) * x.step
def budgetL (l : List Level) (x : Level) (rate quota : Int) : Int := max 0 (quota - (costs l rate - costL x rate))
def keepL (l : List Level) (x : Level) (least rate quota : Int) : Int := min x.keep (max least (mostL x rate (budgetL l x rate quota)))
end Go.Proofs.YtagoolooikpabaaGreatDoor
namespace Go.Proofs.YtagoolooikpabaaGreatDoor
open Go Go.RowKit
set_option maxRecDepth 100000
section
variable (H : Hp) (K : AV → Hp → Prop)
theorem out_a (n lo hi : Int) (hk : K (.c (.bool (decide (n < lo ∨ hi < n)))) H) : ACalls Tryz.prog 124 [(.c (.int .i64 n)), (.c (.int .i64 lo)), (.c (.int .i64 hi))] H K := by
 refine acalls Tryz.func124 rfl kRf gT (fun hH => ?_)
 refine gO ?_
 repeat' (first | ((first | refine acond_d ?_ ?_ | refine acond_b ?_ ?_ | refine ag_d ?_ ?_ | refine ag_n ?_ ?_ | refine ag_bt ?_ ?_ | refine ag_bf ?_ ?_) <;> intro c <;> try refine gO1 c ?_) | ((first | refine w_draw kRf dKn ?_) <;> try refine gO ?_))
 all_goals (first | refine Ret.sameE lRf (by assumption) ?_ | refine Ret.dropE (by assumption) lRf (by assumption) oKs ?_) <;> (first | rfl | (simp only [AV.c.injEq, AC.bool.injEq]; rw [Bool.eq_iff_iff]; simp only [Bool.not_eq_true', decide_eq_true_eq, decide_eq_false_iff_not, Bool.and_eq_true, Bool.or_eq_true]; omega) | grind | (simp [*]; done) | (simp [*]; omega))
theorem in_a (n lo hi : Int) (hk : K (.c (.bool (decide (lo ≤ n ∧ n ≤ hi)))) H) : ACalls Tryz.prog 111 [(.c (.int .i64 n)), (.c (.int .i64 lo)), (.c (.int .i64 hi))] H K := by
 refine acalls Tryz.func111 rfl kRf gT (fun hH => ?_)
 refine gO ?_
 repeat' (first | ((first | refine acond_d ?_ ?_ | refine acond_b ?_ ?_ | refine ag_d ?_ ?_ | refine ag_n ?_ ?_ | refine ag_bt ?_ ?_ | refine ag_bf ?_ ?_) <;> intro c <;> try refine gO1 c ?_) | ((first | refine w_draw kRf dKn ?_) <;> try refine gO ?_))
 all_goals (first | refine Ret.sameE lRf (by assumption) ?_ | refine Ret.dropE (by assumption) lRf (by assumption) oKs ?_) <;> (first | rfl | (simp only [AV.c.injEq, AC.bool.injEq]; rw [Bool.eq_iff_iff]; simp only [Bool.not_eq_true', decide_eq_true_eq, decide_eq_false_iff_not, Bool.and_eq_true, Bool.or_eq_true]; omega) | grind | (simp [*]; done) | (simp [*]; omega))
theorem moment_a (n : Int) (hk : K (.c (.bool (decide (0 ≤ n ∧ n ≤ 345686399999)))) H) : ACalls Tryz.prog 76 [(.c (.int .i64 n))] H K := by
 refine acalls Tryz.func76 rfl kRf gT (fun hH => ?_)
 refine gO ?_
 repeat' (first | ((first | refine acond_d ?_ ?_ | refine acond_b ?_ ?_ | refine ag_d ?_ ?_ | refine ag_n ?_ ?_ | refine ag_bt ?_ ?_ | refine ag_bf ?_ ?_) <;> intro c <;> try refine gO1 c ?_) | ((first | refine w_draw kRf dKn ?_ | refine out_a _ _ _ _ _ ?_) <;> try refine gO ?_))
 all_goals (first | refine Ret.sameE lRf (by assumption) ?_ | refine Ret.dropE (by assumption) lRf (by assumption) oKs ?_) <;> (first | rfl | (simp only [AV.c.injEq, AC.bool.injEq]; rw [Bool.eq_iff_iff]; simp only [Bool.not_eq_true', decide_eq_true_eq, decide_eq_false_iff_not, Bool.and_eq_true, Bool.or_eq_true]; omega) | grind | (simp [*]; done) | (simp [*]; omega))
theorem momentR_a (n : Int) (hk : K (.c (.bool (decide (0 ≤ n ∧ n ≤ 345686399999)))) H) : ACalls Tryz.prog 83 [(.c (.int .i64 n))] H K := by
 refine acalls Tryz.func83 rfl kRf gT (fun hH => ?_)
 refine gO ?_
 repeat' (first | ((first | refine acond_d ?_ ?_ | refine acond_b ?_ ?_ | refine ag_d ?_ ?_ | refine ag_n ?_ ?_ | refine ag_bt ?_ ?_ | refine ag_bf ?_ ?_) <;> intro c <;> try refine gO1 c ?_) | ((first | refine w_draw kRf dKn ?_ | refine in_a _ _ _ _ _ ?_) <;> try refine gO ?_))
 all_goals (first | refine Ret.sameE lRf (by assumption) ?_ | refine Ret.dropE (by assumption) lRf (by assumption) oKs ?_) <;> (first | rfl | (simp only [AV.c.injEq, AC.bool.injEq]; rw [Bool.eq_iff_iff]; simp only [Bool.not_eq_true', decide_eq_true_eq, decide_eq_false_iff_not, Bool.and_eq_true, Bool.or_eq_true]; omega) | grind | (simp [*]; done) | (simp [*]; omega))
end
variable {H : Hp} {K : AV → Hp → Prop}
def encI (n : Int) : List AC := [.int .i64 n]
attribute [go_sem] encI
end Go.Proofs.YtagoolooikpabaaGreatDoor
namespace Go.Proofs.YtagoolooikpabaaGreatDoor
open Go Go.RowKit
set_option maxRecDepth 100000
variable {H : Hp} {K : AV → Hp → Prop}
abbrev strO (zs : List Int) (k : Int) : AObj := .row 25 2 [[.lst 1 (zs.map encI), .int .i64 k]] true
def Str (H : Hp) (s : Nat) (zs : List Int) (k : Int) : Prop := zs.length ≤ 9223372036854775807 ∧ 0 ≤ k ∧ k ≤ 1099511627776 ∧ H[s]? = some (strO zs k)
theorem Str.lt {s : Nat} {zs : List Int} {k : Int} (h : Str H s zs k) : s < H.length := getElem?_lt h.2.2.2
theorem HOk.str {s : Nat} {zs : List Int} {k : Int} (h : HOk H) : HOk (H.set s (strO zs k)) := HOk.set h (okN_pure (by simp [pureL, AC.pure]) sMp _)
theorem Str.app {s : Nat} {zs : List Int} {k : Int} (h : Str H s zs k) (L : Hp) : Str (H ++ L) s zs k := ⟨h.1, h.2.1, h.2.2.1, get_old h.2.2.2 L⟩
theorem Str.set {s : Nat} {zs : List Int} {k k' : Int} (h : Str H s zs k) (h1 : 0 ≤ k') (h2 : k' ≤ 1099511627776) : Str (H.set s (strO zs k')) s zs k' := ⟨h.1, h1, h2, List.getElem?_set_self h.lt⟩
theorem Str.pos {s : Nat} {zs : List Int} {k : Int} (h : Str H s zs k) : 0 ≤ k := h.2.1
theorem below_a (x n : Int) (h1 : 1 ≤ n) (hn : n ≤ 9223372036854775807) (hk : ∀ r : Int, 0 ≤ r → r < n → K (.c (.int .i64 r)) H) : ACalls Tryz.prog 99 [(.c (.int .i64 x)), (.c (.int .i64 n))] H K := by
 have hb : -n < x.tmod n := by have := Int.lt_tmod_of_pos x (b := n) oMg; omega
 have hc : x.tmod n < n := Int.tmod_lt_of_pos x oMg
 have hn1 : ¬n < 1 := by omega
 refine acalls Tryz.func99 rfl kRf gT (fun hH => ?_)
 refine gO1 hn1 ?_
 repeat' (first | ((first | refine acond_d ?_ ?_ | refine acond_b ?_ ?_ | refine ag_d ?_ ?_ | refine ag_n ?_ ?_ | refine ag_bt ?_ ?_ | refine ag_bf ?_ ?_) <;> intro c <;> try refine gO1 c ?_) | ((first | refine w_draw kRf dKn ?_) <;> try refine gO ?_))
 all_goals exact Ret.same lRf (hk _ oMg oMg)
theorem next_a (s : Nat) (zs : List Int) (k n : Int) (hs : Str H s zs k) (h1 : 1 ≤ n) (hn : n ≤ 9223372036854775807)
  (hk : ∀ r : Int, 0 ≤ r → r < n → K (.c (.int .i64 r)) (H.set s (strO zs (k + 1)))) : ACalls Tryz.prog 45 [.c (.ptr (some (s, 0, 0))), (.c (.int .i64 n))] H K := by
 have hlt := hs.lt
 obtain ⟨hz, hk0, hk1, hs⟩ := hs
 by_cases h0 : zs.length = 0
 ·refine acalls Tryz.func45 rfl kRf gT (fun hH => ?_)
  refine gO2 hs h0 ?_
  repeat' (first | ((first | refine acond_d ?_ ?_ | refine acond_b ?_ ?_ | refine ag_d ?_ ?_ | refine ag_n ?_ ?_ | refine ag_bt ?_ ?_ | refine ag_bf ?_ ?_) <;> intro c <;> try refine gO1 c ?_) | ((first | refine w_draw kRf dKn ?_ | refine below_a _ _ oMg oMg (fun r _ _ => ?_)) <;> try refine gO ?_))
  exact Ret.same sMp (hk _ oMg oMg)
 ·obtain ⟨j, hj⟩ : ∃ j : Nat, k % (zs.length : Int) = j := ⟨(k % (zs.length : Int)).toNat, by have := Int.emod_nonneg k (b := (zs.length : Int)) oMg; omega⟩
  have hjl : j < zs.length := by have := Int.emod_lt_of_pos k (b := (zs.length : Int)) oMg; omega
  have h0' : ¬ (zs.length : Int) = 0 := by omega
  refine acalls Tryz.func45 rfl kRf gT (fun hH => ?_)
  refine gO2 hs h0' ?_
  repeat' (first | ((first | refine acond_d ?_ ?_ | refine acond_b ?_ ?_ | refine ag_d ?_ ?_ | refine ag_n ?_ ?_ | refine ag_bt ?_ ?_ | refine ag_bf ?_ ?_) <;> intro c <;> try refine gO1 c ?_) | ((first | refine w_draw kRf dKn ?_ | refine below_a _ _ oMg oMg (fun r _ _ => ?_)) <;> try refine gO ?_))
  exact Ret.same sMp (hk _ oMg oMg)
theorem range_a (s : Nat) (zs : List Int) (k a b : Int) (hs : Str H s zs k) (ha : -4611686018427387904 ≤ a) (hb : b ≤ 4611686018427387900) (hab : a ≤ b)
  (hk : ∀ r : Int, a ≤ r → r ≤ b → K (.c (.int .i64 r)) (H.set s (strO zs (k + 1)))) : ACalls Tryz.prog 43 [.c (.ptr (some (s, 0, 0))), (.c (.int .i64 a)), (.c (.int .i64 b))] H K := by
 have hab' : ¬b < a := by omega
 refine acalls Tryz.func43 rfl kRf gT (fun hH => ?_)
 refine gO1 hab' ?_
 repeat' (first | ((first | refine acond_d ?_ ?_ | refine acond_b ?_ ?_ | refine ag_d ?_ ?_ | refine ag_n ?_ ?_ | refine ag_bt ?_ ?_ | refine ag_bf ?_ ?_) <;> intro c <;> try refine gO1 c ?_) | ((first | refine w_draw kRf dKn ?_ | refine next_a s _ _ _ hs oMg oMg (fun r _ _ => ?_)) <;> try refine gO ?_))
 exact Ret.same sMp (hk _ oMg oMg)
theorem flip_a (s : Nat) (zs : List Int) (k n : Int) (hs : Str H s zs k) (h1 : 1 ≤ n) (hn : n ≤ 9223372036854775807)
  (hk : ∀ b : Bool, K (.c (.bool b)) (H.set s (strO zs (k + 1)))) : ACalls Tryz.prog 22 [.c (.ptr (some (s, 0, 0))), (.c (.int .i64 n))] H K := by
 refine acalls Tryz.func22 rfl kRf gT (fun hH => ?_)
 refine gO ?_
 repeat' (first | ((first | refine acond_d ?_ ?_ | refine acond_b ?_ ?_ | refine ag_d ?_ ?_ | refine ag_n ?_ ?_ | refine ag_bt ?_ ?_ | refine ag_bf ?_ ?_) <;> intro c <;> try refine gO1 c ?_) | ((first | refine w_draw kRf dKn ?_ | refine next_a s _ _ _ hs oMg oMg (fun r _ _ => ?_)) <;> try refine gO ?_))
 exact Ret.same sMp (hk _)
theorem pick_a (s : Nat) (zs : List Int) (k : Int) (l : List Int) (hs : Str H s zs k) (h0 : 0 < l.length) (h1 : l.length ≤ 1000)
  (hk : ∀ r : Int, r ∈ l → K (.c (.int .i64 r)) (H.set s (strO zs (k + 1)))) : ACalls Tryz.prog 24 [.c (.ptr (some (s, 0, 0))), .c (.lst 1 (l.map encI))] H K := by
 refine acalls Tryz.func24 rfl kRf gT (fun hH => ?_)
 refine gO ?_
 repeat' (first | ((first | refine acond_d ?_ ?_ | refine acond_b ?_ ?_ | refine ag_d ?_ ?_ | refine ag_n ?_ ?_ | refine ag_bt ?_ ?_ | refine ag_bf ?_ ?_) <;> intro c <;> try refine gO1 c ?_) | ((first | refine w_draw kRf dKn ?_ | refine next_a s _ _ _ hs oMg oMg (fun r _ _ => ?_)) <;> try refine gO ?_))
 exact Ret.same sMp (hk _ (List.getElem_mem _))
theorem pick_lit (s : Nat) (zs : List Int) (k : Int) (l : List Int) {i ty n : Nat} {els : List (List AC)} {own : Bool} (hi : H[i]? = some (.row ty 1 els own)) (he : els = l.map encI) (hn : n = l.length) (hs : Str H s zs k) (hne : i ≠ s) (h0 : 0 < l.length) (h1 : l.length ≤ 1000)
  (hk : ∀ r : Int, r ∈ l → K (.c (.int .i64 r)) ((H.set i .dead).set s (strO zs (k + 1)))) : ACalls Tryz.prog 24 [.c (.ptr (some (s, 0, 0))), .c (.sl (some (i, 0)) n)] H K := by
 subst he hn
 refine ACalls.lit hi (by simp [pureL, encI, AC.pure]) (args' := [.c (.ptr (some (s, 0, 0))), .c (.lst 1 (l.map encI))]) ?_ (pick_a s zs k l ⟨hs.1, hs.2.1, hs.2.2.1, ?_⟩ h0 h1 hk)
 ·simp [AV.frz1, AC.frz]
  rw [List.take_of_length_le sMp]
 ·rw [List.getElem?_set_ne hne]; exact hs.2.2.2
end Go.Proofs.YtagoolooikpabaaGreatDoor
namespace Go.Proofs.YtagoolooikpabaaGreatDoor
open Go Go.RowKit
set_option maxRecDepth 100000
set_option maxHeartbeats 1000000
theorem grV_ren (σ : Nat → Nat) (i : Nat) {α : Type} (l : List α) : (grV i l).ren σ = grV (σ i) l := by cases l <;> rfl
theorem av_ren_gr (σ : Nat → Nat) (i : Nat) {α : Type} (l : List α) : (AV.c (grV i l)).ren σ = .c (grV (σ i) l) := congrArg AV.c (grV_ren σ i l)
theorem grV_ok {n i : Nat} (h : i < n) {α : Type} (l : List α) : (grV i l).ok n := by
 cases l with
 | nil => trivial
 | cons x xs => exact h
theorem pickS_add (a : Nat) (ids : List Nat) (j : Nat) : pickS a ids (a + j) = a + ids.getD j 0 := by unfold pickS; rw [if_neg oMg, Nat.add_sub_cancel_left]
theorem pureO_gr {e sz : Nat} {l : List (List AC)} (h : pureL l = true) : (grO e sz l).pureO = true := by
 cases l with
 | nil => rfl
 | cons x xs => exact h
theorem map_grV {α β : Type} (enc : α → β) (i : Nat) (l : List α) : grV i (l.map enc) = grV i l := by cases l <;> simp [grV]
theorem row_ren (σ : Nat → Nat) (ty sz : Nat) (els : List (List AC)) (own : Bool) : (AObj.row ty sz els own).ren σ = .row ty sz (els.map fun e => e.map (AC.ren σ)) own := rfl
theorem grO_ren (σ : Nat → Nat) (e sz : Nat) {l : List (List AC)} (h : pureL l = true) : (grO e sz l).ren σ = grO e sz l := pureO_ren (pureO_gr h)
theorem WkL.pickR {A G L : Hp} {m : Nat} {vs vs' : List AV} (ids : List Nat) (p : Nat) (hA : HOk A) (hm : m ≤ A.length + p) (hp : p ≤ L.length) (hid : ∀ j, j < p → ids.getD j 0 = j) (hL : ids.map (fun j => G[j]?) = L.map (fun o => some (o.ren (pickS A.length ids)))) (hd : ids.Nodup)
  (hok : ∀ o ∈ L, o.okN (A.length + L.length)) (hv : vs = vs'.map (AV.ren (pickS A.length ids))) (ho : ∀ x ∈ vs', x.ok (A.length + L.length)) : WkL m vs (A ++ G) vs' (A ++ L) := by
 have hlen : ids.length = L.length := by have := congrArg List.length hL; simpa using this
 have hget : ∀ (j : Nat) (o : AObj), L[j]? = some o → ∃ q, ids[j]? = some q ∧ G[q]? = some (o.ren (pickS A.length ids)) := by
  intro j o hj
  have h1 : (L.map (fun o => some (o.ren (pickS A.length ids))))[j]? = some (some (o.ren (pickS A.length ids))) := by rw [List.getElem?_map, hj]; rfl
  rw [← hL, List.getElem?_map] at h1
  cases hq : ids[j]? with
  | none => rw [hq] at h1; cases h1
  | some q => rw [hq] at h1; exact ⟨q, rfl, by simpa using h1⟩
 have hlo : ∀ i, i < A.length → pickS A.length ids i = i := fun i hi => by simp [pickS, hi]
 have hlo2 : ∀ i, i < A.length + p → pickS A.length ids i = i := fun i hi => by
  rcases Nat.lt_or_ge i A.length with h | h
  ·exact hlo i h
  ·unfold pickS
   rw [if_neg oMg, hid _ oMg]; omega
 intro B w0 ι w us hs hr hov
 have hok' : HOk (A ++ L) := by
  intro i o hi
  rw [List.length_append]
  rcases Nat.lt_or_ge i A.length with h | h
  ·rw [List.getElem?_append_left h] at hi; exact AObj.okN_mono oMg (hA i o hi)
  ·rw [List.getElem?_append_right h] at hi
   exact hok o (List.mem_of_getElem? hi)
 refine WkL.ren (m := m) (pickS A.length ids) (fun i hi => hlo2 i oMg) (by rw [List.length_append]; omega) (fun i o hi hl => ?_) (fun i j hi hj hij => ?_) hv (by rw [List.length_append]; exact ho) hok' B w0 ι w us hs hr hov
 ·rcases Nat.lt_or_ge i A.length with h | h
  ·rw [List.getElem?_append_left h] at hi
   rw [hlo i h, AObj.ren_id (n := A.length) hlo (hA i o hi), List.getElem?_append_left h]; exact hi
  ·rw [List.getElem?_append_right h] at hi
   obtain ⟨q, h1, h2⟩ := hget _ _ hi
   have : pickS A.length ids i = A.length + q := by
    unfold pickS
    rw [if_neg oMg, List.getD_eq_getElem?_getD, h1]; rfl
   rw [this, List.getElem?_append_right oMg]
   simpa using h2
 ·rw [List.length_append] at hi hj
  have key : ∀ i, i < A.length + L.length → A.length ≤ i → ∃ q, ids[i - A.length]? = some q ∧ pickS A.length ids i = A.length + q := by
   intro i h1 h2
   have h3 : i - A.length < ids.length := by omega
   refine ⟨ids[i - A.length], List.getElem?_eq_getElem h3, ?_⟩
   unfold pickS
   rw [if_neg oMg, List.getD_eq_getElem?_getD, List.getElem?_eq_getElem h3]; rfl
  rcases Nat.lt_or_ge i A.length with h1 | h1 <;> rcases Nat.lt_or_ge j A.length with h2 | h2
  ·rw [hlo i h1, hlo j h2] at hij; exact hij
  ·obtain ⟨q, g1, g2⟩ := key j hj h2
   rw [hlo i h1, g2] at hij; omega
  ·obtain ⟨q, g1, g2⟩ := key i hi h1
   rw [hlo j h2, g2] at hij; omega
  ·obtain ⟨q, g1, g2⟩ := key i hi h1
   obtain ⟨q', g1', g2'⟩ := key j hj h2
   rw [g2, g2'] at hij
   have hq : q = q' := by omega
   subst hq
   have hi' : i - A.length < ids.length := by omega
   have hj' : j - A.length < ids.length := by omega
   rw [List.getElem?_eq_getElem hi'] at g1
   rw [List.getElem?_eq_getElem hj'] at g1'
   have h5 : ids[i - A.length] = ids[j - A.length] := (Option.some.inj g1).trans (Option.some.inj g1').symm
   have h6 : i - A.length = j - A.length := by
    rcases Nat.lt_trichotomy (i - A.length) (j - A.length) with h | h | h
    ·exact absurd h5 (List.pairwise_iff_getElem.1 hd _ _ hi' hj' h)
    ·exact h
    ·exact absurd h5.symm (List.pairwise_iff_getElem.1 hd _ _ hj' hi' h)
   omega
theorem WkL.pickAt {A G L : Hp} {m : Nat} {vs vs' : List AV} (P : Hp) (ids : List Nat) (hA : HOk A) (hP : ∀ o ∈ P, o.okN (A.length + P.length)) (hm : m ≤ A.length + P.length) (hL : ids.map (fun j => G[j]?) = L.map some) (hd : ids.Nodup) (hp : L.all AObj.pureO = true)
  (hv : vs = vs'.map (AV.ren (pickS (A.length + P.length) ids))) (ho : ∀ x ∈ vs', x.ok (A.length + P.length + L.length)) : WkL m vs (A ++ (P ++ G)) vs' (A ++ (P ++ L)) := by
 have hAP : HOk (A ++ P) := by
  intro i q hq
  rw [List.length_append]
  rcases Nat.lt_or_ge i A.length with h | h
  ·rw [List.getElem?_append_left h] at hq; exact AObj.okN_mono oMg (hA i q hq)
  ·rw [List.getElem?_append_right h] at hq; exact hP q (List.mem_of_getElem? hq)
 rw [← List.append_assoc, ← List.append_assoc]
 exact WkL.pick ids hAP (by rw [List.length_append]; exact hm) hL hd hp (by rw [List.length_append]; exact hv) (by rw [List.length_append]; exact ho)
theorem WkL.padP {A : Hp} {m : Nat} {vs : List AV} (P : Hp) (hm : m ≤ A.length + P.length) : WkL m vs (A ++ P) vs (A ++ (P ++ [.dead])) := by
 rw [← List.append_assoc]
 exact WkL.pad (by rw [List.length_append]; exact hm)
section
variable (P : Program) (H : Hp) (J : AV → Hp → Prop)
@[go_sem] theorem blt_lenG (t i : Nat) {α : Type} (l : List α) : aBuiltin P .len #[t] [.c (grV i l)] H J = aIf ((elemT P t).isSome = true) (.c (.int .i64 l.length)) H J := by cases l <;> rfl
@[go_sem] theorem aix_gr (i s : Nat) {α : Type} (l : List α) (kd : IntKind) (q : Int) (i1 : Bool) (h : 0 ≤ q ∧ q < l.length) : aIx (.c (grV i l)) (.c (.int kd q)) (some s) i1 H J = aIx2 H[i]? i 0 l.length q s i1 H J := by
 cases l with
 | nil => simp at h; omega
 | cons x xs => rfl
@[go_sem] theorem aix2_gr (ty sz i k n s : Nat) (els : List (List AC)) (q : Int) (h : 0 < els.length) : aIx2 (some (grO ty sz els)) i k n q s true H J = aIf (s = sz ∧ 0 ≤ q ∧ q < n) (.c (.ptr (some (i, k + q.toNat, 0)))) H J := by
 cases els with
 | nil => simp at h
 | cons x xs => simp [aIx2, grO]
@[go_sem] theorem elOf_gr (ty sz k : Nat) (els : List (List AC)) : elOf (some (grO ty sz els)) k = els[k]? := by
 cases els <;> simp [elOf, grO]
@[go_sem] theorem ast2_gr (ty sz i k j szt : Nat) (cs : List AC) (els : List (List AC)) (i1 : Bool) (h : 0 < els.length) : aSt2 (some (grO ty sz els)) i k j cs i1 szt H J = aSt3 els[k]? ty sz els i k j cs i1 szt H J := by
 cases els with
 | nil => simp at h
 | cons x xs => rfl
end
section
variable {P : Program} {H A G : Hp} {K J : AV → Hp → Prop} {n : Nat}
theorem app_gr {α : Type} {t i j k e sz bs m : Nat} {enc : α → List AC} {z : List AC} (l : List α) (x : α) (he : elemT P t = some e) (hz : zeroT P e = some z) (hsz : szT P e = sz) (hbs : P.bytesOf e = bs) (hi : H[i]? = some (grO e sz (l.map enc))) (hx : srcO H[j]? sz k 1 = some [enc x]) (hzl : z.length = sz) (hs : 0 < sz)
  (hb : (l.length + 1) * bs ≤ 140737488355328) (hn : l.length + 1 ≤ 9223372036854775807) (hm : m = 1)
  (h : J (.c (grV H.length (l ++ [x]))) (H.set i .dead ++ [grO e sz ((l ++ [x]).map enc)])) : aBuiltin P .append #[t, t] [.c (grV i l), .c (.sl (some (j, k)) m)] H J := by
 subst hsz; subst hbs; subst hm
 have key : ∀ (r : Option (Nat × Nat)) (n : Nat), grV i (l.map enc) = .sl r n → aBuiltin P .append #[t, t] [.c (.sl r n), .c (.sl (some (j, k)) 1)] H J := by
  intro r n hr
  refine app_sl ?_
  rw [he]
  simp only [Option.bind_some, Option.elim_some, hz, hx]
  refine ⟨trivial, hzl, ?_⟩
  refine appL_gr hi hs (by simpa using hb) (by simpa using hn) ?_ r n hr
  have e1 : grV H.length (l ++ [x]) = .sl (some (H.length, 0)) ((l.map enc).length + 1) := by rw [grV_snoc]; simp
  have e2 : grO e (szT P e) ((l ++ [x]).map enc) = .row e (szT P e) (l.map enc ++ [enc x]) true := by simp [grO_snoc]
  rw [e1, e2] at h
  exact h
 rw [← map_grV enc i l]
 cases h0 : l.map enc with
 | nil => rw [h0] at key; exact key _ _ rfl
 | cons y ys => rw [h0] at key; exact key _ _ rfl
theorem appL_grM {e sz bs i : Nat} {l m : List (List AC)} (hi : H[i]? = some (grO e sz l)) (hs : 0 < sz) (hm : m ≠ []) (hb : (l.length + m.length) * bs ≤ 140737488355328) (hn : l.length + m.length ≤ 9223372036854775807)
  (h : J (.c (.sl (some (H.length, 0)) (l.length + m.length))) (H.set i .dead ++ [.row e sz (l ++ m) true])) : ∀ (r : Option (Nat × Nat)) (n : Nat), grV i l = .sl r n → aAppL e sz bs r n m H J := by
 intro r n hr
 obtain ⟨x, xs, rfl⟩ := List.exists_cons_of_ne_nil hm
 cases l with
 | nil =>
  injection hr with h1 h2
  subst h1; subst h2
  have hd : H.set i .dead = H := by
   apply List.ext_getElem?
   intro j
   by_cases e : i = j
   ·subst e; rw [List.getElem?_set_self (getElem?_lt hi), hi]; rfl
   ·rw [List.getElem?_set_ne e]
  rw [hd] at h
  refine ⟨⟨rfl, hs, by simpa using hb, by simpa using hn⟩, ?_⟩
  simpa using h
 | cons y ys =>
  injection hr with h1 h2
  subst h1; subst h2
  show _ ∧ _
  refine ⟨rfl, ?_⟩
  rw [hi]
  show aIf _ _ _ _
  refine ⟨⟨rfl, rfl, Nat.le_refl _, hs, hb, hn⟩, ?_⟩
  rw [List.take_of_length_le lRf]
  exact h
theorem app_grL {α : Type} {t i e sz bs : Nat} {enc : α → List AC} {z : List AC} (l m : List α) (he : elemT P t = some e) (hz : zeroT P e = some z) (hsz : szT P e = sz) (hbs : P.bytesOf e = bs) (hi : H[i]? = some (grO e sz (l.map enc))) (hm : m ≠ []) (hzl : z.length = sz) (hs : 0 < sz)
  (hb : (l.length + m.length) * bs ≤ 140737488355328) (hn : l.length + m.length ≤ 9223372036854775807)
  (h : J (.c (grV H.length (l ++ m))) (H.set i .dead ++ [grO e sz ((l ++ m).map enc)])) : aBuiltin P .append #[t, t] [.c (grV i l), .c (.lst sz (m.map enc))] H J := by
 subst hsz; subst hbs
 have key : ∀ (r : Option (Nat × Nat)) (n : Nat), grV i (l.map enc) = .sl r n → aBuiltin P .append #[t, t] [.c (.sl r n), .c (.lst (szT P e) (m.map enc))] H J := by
  intro r n hr
  refine app_lst ?_
  rw [he]
  simp only [Option.bind_some, Option.elim_some, hz, newO_same]
  refine ⟨trivial, hzl, ?_⟩
  refine appL_grM hi hs (by simpa using hm) (by simpa using hb) (by simpa using hn) ?_ r n hr
  have h0 : l ++ m ≠ [] := by simp [hm]
  rw [grV_pos _ h0, grO_pos _ _ (by simp [hm])] at h
  simpa using h
 rw [← map_grV enc i l]
 cases h0 : l.map enc with
 | nil => rw [h0] at key; exact key _ _ rfl
 | cons y ys => rw [h0] at key; exact key _ _ rfl
theorem app_grR {α : Type} {t i j k m e sz bs : Nat} {enc : α → List AC} {z : List AC} (l mm : List α) (he : elemT P t = some e) (hz : zeroT P e = some z) (hsz : szT P e = sz) (hbs : P.bytesOf e = bs) (hi : H[i]? = some (grO e sz (l.map enc))) (hx : srcO H[j]? sz k m = some (mm.map enc)) (hm : mm ≠ []) (hzl : z.length = sz) (hs : 0 < sz)
  (hb : (l.length + mm.length) * bs ≤ 140737488355328) (hn : l.length + mm.length ≤ 9223372036854775807)
  (h : J (.c (grV H.length (l ++ mm))) (H.set i .dead ++ [grO e sz ((l ++ mm).map enc)])) : aBuiltin P .append #[t, t] [.c (grV i l), .c (.sl (some (j, k)) m)] H J := by
 subst hsz; subst hbs
 have key : ∀ (r : Option (Nat × Nat)) (n : Nat), grV i (l.map enc) = .sl r n → aBuiltin P .append #[t, t] [.c (.sl r n), .c (.sl (some (j, k)) m)] H J := by
  intro r n hr
  refine app_sl ?_
  rw [he]
  simp only [Option.bind_some, Option.elim_some, hz, hx]
  refine ⟨trivial, hzl, ?_⟩
  refine appL_grM hi hs (by simpa using hm) (by simpa using hb) (by simpa using hn) ?_ r n hr
  rw [grV_pos _ (by simp [hm]), grO_pos _ _ (by simp [hm])] at h
  simpa using h
 rw [← map_grV enc i l]
 cases h0 : l.map enc with
 | nil => rw [h0] at key; exact key _ _ rfl
 | cons y ys => rw [h0] at key; exact key _ _ rfl
theorem app_grS {t t' i e : Nat} {enc : UInt8 → List AC} (l : List UInt8) (s : ByteArray) (henc : enc = fun b => [.int .u8 b.toNat]) (h1 : P.underlying t' = some .string) (he : elemT P t = some e) (hz : (P.info? e).bind (·.zero) = some (.int .u8 0)) (hsz : szT P e = 1) (hbs : P.bytesOf e = 1) (hi : H[i]? = some (grO e 1 (l.map enc))) (hm : 0 < s.size)
  (hb : l.length + s.size ≤ 140737488355328)
  (h : J (.c (grV H.length (l ++ s.data.toList))) (H.set i .dead ++ [grO e 1 ((l ++ s.data.toList).map enc)])) : aBuiltin P .append #[t, t'] [.c (grV i l), .c (.str s)] H J := by
 subst henc
 have hl : s.data.toList.length = s.size := Array.length_toList
 have hne : s.data.toList ≠ [] := by intro h0; rw [h0] at hl; simp at hl; omega
 have key : ∀ (r : Option (Nat × Nat)) (n : Nat), grV i (l.map fun b => [AC.int .u8 b.toNat]) = .sl r n → aBuiltin P .append #[t, t'] [.c (.sl r n), .c (.str s)] H J := by
  intro r n hr
  refine app_str0 h1 he hz hsz hbs ?_
  refine appL_grM hi (by decide) (by simpa using hne) (by simp; omega) (by simp; omega) ?_ r n hr
  rw [grV_pos _ (by simp [hne]), grO_pos _ _ (by simp [hne])] at h
  simpa using h
 rw [← map_grV (fun b : UInt8 => [AC.int .u8 b.toNat]) i l]
 cases h0 : l.map fun b => [AC.int .u8 b.toNat] with
 | nil => rw [h0] at key; exact key _ _ rfl
 | cons y ys => rw [h0] at key; exact key _ _ rfl
theorem Ret.frzGr {ty sz : Nat} {l : List (List AC)} {x : AC} (j : Nat) (hA : HOk A) (hn : n ≤ A.length) (hj : G[j]? = some (grO ty sz l)) (hp : pureL l = true) (hx : x = grV (A.length + j) l) (hk : K (.c (.lst sz l)) A) : Ret n (.c x) (A ++ G) K := by
 subst hx
 cases l with
 | nil => exact Ret.nil [sz] (by simp; omega) (Ret.drop hA hn (by simp [grV, AV.nilz, AC.nilz, AV.ok, AV.ok1, AC.ok]) hk)
 | cons y ys => exact Ret.frzAt j hA hn hk hj hp oKs (by simp [AV.frz, AV.frz1, AC.frz, grV])
theorem Ret.frzRow {ty sz m : Nat} {l : List (List AC)} {own : Bool} {i : Nat} (j : Nat) (hA : HOk A) (hn : n ≤ A.length) (hj : G[j]? = some (.row ty sz l own)) (hp : pureL l = true) (hi : i = A.length + j) (hm : m = l.length) (hk : K (.c (.lst sz l)) A) : Ret n (.c (.sl (some (i, 0)) m)) (A ++ G) K := by
 subst hi; subst hm
 exact Ret.frzAt j hA hn hk hj hp oKs (by simp [AV.frz, AV.frz1, AC.frz])
theorem Ret.frzGrT {ty sz : Nat} {l : List (List AC)} {x : AC} {ts : List AV} (j : Nat) (hA : HOk A) (hn : n ≤ A.length) (hj : G[j]? = some (grO ty sz l)) (hp : pureL l = true) (ht : tailOk ts = true) (hx : x = grV (A.length + j) l) (hk : K (.tup (.c (.lst sz l) :: ts)) A) : Ret n (.tup (.c x :: ts)) (A ++ G) K := by
 subst hx
 have ho : (AV.tup (.c (.lst sz l) :: ts)).ok A.length := by
  intro y hy
  rcases List.mem_cons.1 hy with rfl | hy
  ·trivial
  ·exact tail_ok1 _ ht y hy
 cases l with
 | nil =>
  refine Ret.nil [sz] (by simp; omega) ?_
  have e : (AV.tup (.c (grV (A.length + j) ([] : List (List AC))) :: ts)).nilz [sz] = .tup (.c (.lst sz []) :: ts) := by
   simp [AV.nilz, AV.nilz.go, grV, AC.nilz]
  rw [e]
  exact Ret.drop hA hn ho hk
 | cons y ys =>
  refine Ret.frzAt j hA hn hk hj hp ho ?_
  simp only [AV.frz, List.map_cons, tail_frz ht]
  simp [AV.frz1, AC.frz, grV]
theorem Ret.nilT {sz : Nat} {ts : List AV} (hA : HOk A) (hn : n ≤ A.length) (ht : tailOk ts = true) (hk : K (.tup (.c (.lst sz []) :: ts)) A) : Ret n (.tup (.c (.sl none 0) :: ts)) (A ++ G) K := by
 refine Ret.nil [sz] (by simp; omega) ?_
 have e : (AV.tup (.c (.sl none 0) :: ts)).nilz [sz] = .tup (.c (.lst sz []) :: ts) := by simp [AV.nilz, AV.nilz.go, AC.nilz]
 rw [e]
 refine Ret.drop hA hn ?_ hk
 intro y hy
 rcases List.mem_cons.1 hy with rfl | hy
 ·trivial
 ·exact tail_ok1 _ ht y hy
theorem ACalls.nilz {P : Program} {f : FuncId} {args : List AV} {H : Hp} {K : AV → Hp → Prop} (szs : List Nat) (hs : szs ≠ []) (h : ACalls P f (AV.nilz.go szs args) H K) : ACalls P f args H K := by
 intro B w0 ι w vs hm hr ho
 have e : (AV.tup args).nilz szs = .tup (AV.nilz.go szs args) := by cases szs with | nil => exact absurd rfl hs | cons _ _ => rfl
 obtain ⟨h1, h2⟩ := AV.nilz_rel (n := H.length) (x := .tup args) (v := .tuple vs.toList.toArray) szs ⟨_, rfl, hr⟩ ho
 rw [e] at h1 h2
 obtain ⟨us, h3, h4⟩ := h1
 injection h3 with h3
 have h5 : vs.toList = us := by have := congrArg Array.toList h3; simpa using this
 subst h5
 exact h B w0 ι w vs hm h4 h2
theorem set_same {H : Hp} {i : Nat} {o : AObj} (hi : H[i]? = some o) : H.set i o = H := by
 have hlt := getElem?_lt hi
 apply List.ext_getElem?
 intro j
 by_cases e : i = j
 ·subst e; rw [List.getElem?_set_self hlt, hi]
 ·rw [List.getElem?_set_ne e]
theorem ACalls.litGr {P : Program} {f : FuncId} {rest : List AV} {H : Hp} {K : AV → Hp → Prop} {i ty sz : Nat} {α : Type} {l : List α} {els : List (List AC)} (hi : H[i]? = some (grO ty sz els)) (hl : l.length = els.length) (hp : pureL els = true) (hr : rest.map (AV.frz1 i sz els) = rest)
  (h : ACalls P f (.c (.lst sz els) :: rest) (H.set i .dead) K) : ACalls P f (.c (grV i l) :: rest) H K := by
 cases els with
 | nil =>
  have h0 : l = [] := List.length_eq_zero_iff.1 hl
  subst h0
  rw [set_same (o := .dead) hi] at h
  refine ACalls.nilz [sz] sMp ?_
  exact h
 | cons y ys =>
  have h0 : l ≠ [] := by rintro rfl; simp at hl
  rw [grV_pos _ h0]
  refine ACalls.lit (i := i) (ty := ty) (sz := sz) (els := y :: ys) (own := true) hi hp (args' := .c (.lst sz (y :: ys)) :: rest) ?_ h
  rw [List.map_cons, hr]
  simp [AV.frz1, AC.frz, hl]
theorem ACalls.postR {P : Program} {f : FuncId} {args : List AV} {H : Hp} {K K1 : AV → Hp → Prop} (h : ACalls P f args H K1) (hk : HOk H → ∀ v H', K1 v H' → Ret H.length v H' K) : ACalls P f args H K := by
 intro B w0 ι w vs hs hr ho
 refine (h B w0 ι w vs hs hr ho).mono fun e w' he => ?_
 obtain ⟨ι2, u, av, H', rfl, k2, k3, k4, k5, k6, k7⟩ := he
 obtain ⟨v2, H2, h1, h2⟩ := hk hs.hok av H' k7 k4.hok k6
 obtain ⟨ι3, g1, g2, g3, g4, g5⟩ := h1 B w0 ι2 w' [u] k4 ⟨k5, trivial⟩ (by intro x hx; rw [List.mem_singleton] at hx; subst hx; exact k6)
 exact ⟨ι3, u, v2, H2, rfl, k2.trans g1 lRf, g2, g3, g4.1, g5 v2 sMp, h2⟩
theorem Ret.nilS {sz : Nat} {ts : List AV} (hn : n ≤ A.length) (ht : tailOk ts = true) (hk : K (.tup (.c (.lst sz []) :: ts)) A) : Ret n (.tup (.c (.sl none 0) :: ts)) A K := by
 refine Ret.nil [sz] hn ?_
 have e : (AV.tup (.c (.sl none 0) :: ts)).nilz [sz] = .tup (.c (.lst sz []) :: ts) := by simp [AV.nilz, AV.nilz.go, AC.nilz]
 rw [e]
 exact Ret.same hn hk
end
end Go.Proofs.YtagoolooikpabaaGreatDoor
namespace Go.Proofs.YtagoolooikpabaaGreatDoor
open Go Go.RowKit
set_option maxRecDepth 100000
section
variable {P : Program} {n N : Nat} {L : List Tmp} {F : Fr} {H : Hp}
def QR (P : Program) (n N : Nat) (L : List Tmp) (c : Code) (Q : AExit → Fr → Hp → Prop) : Nat → AExit → Fr → Hp → Prop
 | 0 => fun e F H => match e with | .normal => False | e => Q e F H
 | k + 1 => fun e F H => match e with | .normal => AWp P n N L c (QR P n N L c Q k) F H | e => Q e F H
theorem AWp.rounds {c : Code} {Q : AExit → Fr → Hp → Prop} (k : Nat) (hc : codeOk N c = true) (h : AWp P n N L c (QR P n N L c Q k) F H) : AWp P n N L (.loop c) Q F H := by
 intro rr dd B w0 ι0 ι a w hA hn hs hF
 have key : ∀ (k : Nat) (F' : Fr) (H' : Hp) (ι' : En) (a' : Act) (w' : World), Agree n ι0 ι' → n ≤ H'.length → Sim B w0 ι' H' w' → FOk dd N ι' H'.length F' a' → (∀ t ∈ L, t ∉ asg c → F' t = F t) → AWp P n N L c (QR P n N L c Q k) F' H' → Code.roundsIn (fen rr) 0 P c (CQ dd B w0 ι0 n N (QF L (.loop c) F Q)) (k + 1) a' w' := by
  intro k
  induction k with
  | zero =>
   intro F' H' ι' a' w' g1 g2 g3 g4 g5 g6
   rw [roundsIn_succ]
   refine wpIn_mono (awp_sound c _ hc g1 g2 g3 g4 (awp_frame g6)) ?_
   intro e a2 w2 he
   cases e with
   | normal => obtain ⟨ι2, F2, H2, k1, k2, k3, k4, k5, k6⟩ := he; exact k5.elim
   | exit id => obtain ⟨ι2, F2, H2, k1, k2, k3, k4, k5, k6⟩ := he; exact ⟨ι2, F2, H2, k1, k2, k3, k4, k5, fun t ht hm => (k6 t ht hm).trans (g5 t ht hm)⟩
   | ret => obtain ⟨ι2, F2, H2, k1, k2, k3, k4, k5, k6⟩ := he; exact ⟨ι2, F2, H2, k1, k2, k3, k4, k5, fun t ht hm => (k6 t ht hm).trans (g5 t ht hm)⟩
   | _ => exact he
  | succ k ih =>
   intro F' H' ι' a' w' g1 g2 g3 g4 g5 g6
   rw [roundsIn_succ]
   refine wpIn_mono (awp_sound c _ hc g1 g2 g3 g4 (awp_frame g6)) ?_
   intro e a2 w2 he
   cases e with
   | normal => obtain ⟨ι2, F2, H2, k1, k2, k3, k4, k5, k6⟩ := he; exact ih F2 H2 ι2 a2 w2 k1 k2 k3 k4 (fun t ht hm => (k6 t ht hm).trans (g5 t ht hm)) k5
   | exit id => obtain ⟨ι2, F2, H2, k1, k2, k3, k4, k5, k6⟩ := he; exact ⟨ι2, F2, H2, k1, k2, k3, k4, k5, fun t ht hm => (k6 t ht hm).trans (g5 t ht hm)⟩
   | ret => obtain ⟨ι2, F2, H2, k1, k2, k3, k4, k5, k6⟩ := he; exact ⟨ι2, F2, H2, k1, k2, k3, k4, k5, fun t ht hm => (k6 t ht hm).trans (g5 t ht hm)⟩
   | _ => exact he
 exact wpIn_loop_rounds (k + 1) (key k F H ι a w hA hn hs hF (fun _ _ _ => rfl) h)
@[go_sem ↓] theorem qr_n (c : Code) (Q : AExit → Fr → Hp → Prop) (k : Nat) : QR P n N L c Q (k + 1) .normal F H = AWp P n N L c (QR P n N L c Q k) F H := (rfl)
@[go_sem ↓] theorem qr_e (c : Code) (Q : AExit → Fr → Hp → Prop) (k id : Nat) : QR P n N L c Q k (.exit id) F H = Q (.exit id) F H := by cases k <;> rfl
end
end Go.Proofs.YtagoolooikpabaaGreatDoor
namespace Go.Proofs.YtagoolooikpabaaGreatDoor
open Go Go.RowKit Go.Shelf
set_option maxRecDepth 100000
set_option maxHeartbeats 2000000
theorem rcDis (w : World) : (callFunc 276 #[]).run Tryz.prog w = .ok (.value (.tuple #[])) w := run_call_mark0 Tryz.func276 kRf kRf kRf .disable kRf w
theorem rcEn (w : World) : (callFunc 278 #[]).run Tryz.prog w = .ok (.value (.tuple #[])) w := run_call_mark0 Tryz.func278 kRf kRf kRf .enable kRf w
theorem rcAcq (a : Addr) (w : World) : (callFunc 279 #[.pointer (some a)]).run Tryz.prog w = .ok (.value (.tuple #[])) w := run_call_marked Tryz.func279 kRf kRf kRf .acquire kRf a w
theorem rcRel (a : Addr) (w : World) : (callFunc 281 #[.pointer (some a)]).run Tryz.prog w = .ok (.value (.tuple #[])) w := run_call_marked Tryz.func281 kRf kRf kRf .releaseMerge kRf a w
theorem storeD (a : Addr) (x : Value) (u : FrameMode) (w : World) (hc : w.cell? a = some x) (hz : w.frozen? a = false) :
  CallsD Tryz.prog 198 #[.pointer (some a), .bool true] u w fun e u' w' => u' = u ∧ (e = .returned (.tuple #[]) ∧ w' = w.drew.setCell a (.int .u32 1)) := by
 have hc' : w.drew.cell? a = some x := by go_simp
 have hz' : w.drew.frozen? a = false := by go_simp
 have hst := run_call_store (P := Tryz.prog) Tryz.func250 kRf kRf kRf kRf (k := .u32) (y := 1) hc' hz'
 go_enter_d Tryz.func198, Tryz.ntmps198
 go_wp2
 go_region_calls
 all_goals (go_end0; exact ⟨rfl, rfl⟩)
theorem unlockI (a : Addr) (w : World) (hc : w.cell? a = some (.int .i32 1)) (hz : w.frozen? a = false) :
  Calls Tryz.prog 249 #[.pointer (some a)] w fun e w' => e = .returned (.tuple #[]) ∧ w' = w.setCell a (.int .i32 0) := by
 have hd := rcDis
 have he := rcEn
 have hr := rcRel
 have hadd := run_call_add (P := Tryz.prog) Tryz.func282 kRf kRf kRf .i32 kRf (y := -1) (s := 0) hc hz (by simp [go_sem]; rfl)
 have hcv := run_convert_to_unsafe (P := Tryz.prog) (src := 345) (dst := 323) Tryz.underlying345 Tryz.underlying323 kRf hc
 go_enter Tryz.func249, Tryz.ntmps249
 go_wp2
 go_end0
 exact ⟨rfl, rfl⟩
theorem lockI (a : Addr) (w : World) (hc : w.cell? a = some (.int .i32 0)) (hz : w.frozen? a = false) :
  Calls Tryz.prog 248 #[.pointer (some a)] w fun e w' => e = .returned (.tuple #[]) ∧ w' = w.setCell a (.int .i32 1) := by
 have hd := rcDis
 have he := rcEn
 have ha := rcAcq
 have hcas := run_call_cas_hit (P := Tryz.prog) Tryz.func277 kRf kRf kRf .i32 kRf (y := 1) hc hz
 have hc' : (w.setCell a (.int .i32 1)).cell? a = some (.int .i32 1) := World.cell?_setCell_same w a _ hc
 have hcv := run_convert_to_unsafe (P := Tryz.prog) (src := 345) (dst := 323) Tryz.underlying345 Tryz.underlying323 kRf hc'
 go_enter Tryz.func248, Tryz.ntmps248
 go_wp2
 refine bodyPost_ret (results_none rfl _ _ _) rfl ?_
 exact ⟨rfl, rfl⟩
theorem lockF (a : Addr) (w : World) (hc : w.cell? a = some (.int .i32 0)) (hz : w.frozen? a = false) :
  Calls Tryz.prog 196 #[.pointer (some a)] w fun e w' => e = .returned (.tuple #[]) ∧ w' = w.setCell a (.int .i32 1) := by
 have e1 : ∀ args w, (callFunc 248 args).run Tryz.prog w = .ok (.enter 248 args) w := enters_of Tryz.func248 kRf rfl
 go_enter Tryz.func196, Tryz.ntmps196
 go_wp2_with (go_at_fn 248; refine (lockI a _ hc hz).mono ?_; rintro e w' ⟨rfl, rfl⟩)
 go_end0
 exact ⟨rfl, rfl⟩
theorem unlockD (a : Addr) (u : FrameMode) (w : World) (hc : w.cell? a = some (.int .i32 1)) (hz : w.frozen? a = false) :
  CallsD Tryz.prog 197 #[.pointer (some a)] u w fun e u' w' => u' = u ∧ (e = .returned (.tuple #[]) ∧ w' = w.setCell a (.int .i32 0)) := by
 have e1 : ∀ args w, (callFunc 249 args).run Tryz.prog w = .ok (.enter 249 args) w := enters_of Tryz.func249 kRf rfl
 go_enter_d Tryz.func197, Tryz.ntmps197
 go_wp2_with (go_at_fn 249; refine (unlockI a _ hc hz).mono ?_; rintro e w' ⟨rfl, rfl⟩)
 go_end0
 exact ⟨rfl, rfl⟩
theorem loadF (a : Addr) (x : Int) (w : World) (hc : w.cell? a = some (.int .u32 x)) :
  Calls Tryz.prog 155 #[.pointer (some a)] w fun e w' => e = .returned (.bool (x != 0)) ∧ w' = w := by
 have hl := run_call_load (P := Tryz.prog) Tryz.func195 kRf kRf kRf .u32 kRf (w := w) (a := a) (x := x) hc
 go_enter Tryz.func155, Tryz.ntmps155
 go_wp2
 go_ret
 exact ⟨rfl, rfl⟩
end Go.Proofs.YtagoolooikpabaaGreatDoor
namespace Go.Proofs.YtagoolooikpabaaGreatDoor
open Go Go.RowKit Go.Shelf
set_option maxRecDepth 100000
set_option maxHeartbeats 4000000
def Arr256 (r : Nat) (w : World) : Prop := ∃ cs : Array Value, w.heap[r]? = some (.cells cs 275 (0, 0)) ∧ cs.size = 256 ∧ ∀ k : Nat, k < 256 → ∃ z : Int, cs[k]? = some (.int .u8 z) ∧ 0 ≤ z ∧ z < 256
theorem Arr256.cell {r : Nat} {w : World} (h : Arr256 r w) {q : Nat} (hq : q < 256) : ∃ z : Int, w.cell? ⟨r, q, none⟩ = some (.int .u8 z) ∧ w.frozen? ⟨r, q, none⟩ = false ∧ 0 ≤ z ∧ z < 256 := by
 obtain ⟨cs, h1, h2, h3⟩ := h
 obtain ⟨z, h4, h5⟩ := h3 q hq
 exact ⟨z, by simp [World.cell?, h1, h4], by simp [World.frozen?, h1], h5⟩
theorem Arr256.set {r : Nat} {w : World} (h : Arr256 r w) {q : Nat} (z : Int) (hz : 0 ≤ z ∧ z < 256) : Arr256 r (w.setCell ⟨r, q, none⟩ (.int .u8 z)) := by
 obtain ⟨cs, h1, h2, h3⟩ := h
 refine ⟨cs.setIfInBounds q (.int .u8 z), by simp [World.setCell, Array.getElem?_modify, h1], by simp [h2], fun k hk => ?_⟩
 by_cases e : q = k
 ·subst e
  exact ⟨z, by simp [h2, hk], hz⟩
 ·obtain ⟨y, h4, h5⟩ := h3 k hk
  exact ⟨y, by rw [Array.getElem?_setIfInBounds_ne e]; exact h4, h5⟩
theorem Arr256.same {r : Nat} {w w' : World} (h : Arr256 r w) (e : w'.heap[r]? = w.heap[r]?) : Arr256 r w' := by
 obtain ⟨cs, h1, h2, h3⟩ := h
 exact ⟨cs, e.trans h1, h2, h3⟩
theorem bldRp (b g cap : Nat) (s : Nat → ByteArray) (w : World) (hs : ∀ k, k < 4 → (s k).size = 1) (hb : w.cell? ⟨b, 4, none⟩ = some (.slice (some ⟨g, 0, none⟩) 4 cap)) (hg : ∀ k, k < 4 → w.cell? ⟨g, k, none⟩ = some (.string (s k))) :
  Calls Tryz.prog 157 #[.pointer (some ⟨b, 0, none⟩)] w fun e w' => ∃ r, e = .returned (.iface 276 (.pointer (some ⟨r, 0, none⟩))) ∧ w.heap.size ≤ r ∧ Arr256 r w' ∧ Below w.heap.size w w' := by
 have hg0 := hg 0 oMg
 have hg1 := hg 1 oMg
 have hg2 := hg 2 oMg
 have hg3 := hg 3 oMg
 have hs0 := hs 0 oMg
 have hs1 := hs 1 oMg
 have hs2 := hs 2 oMg
 have hs3 := hs 3 oMg
 have mixed : Tryz.prog.follows .mixedOrders = true := by kernel_rfl
 go_enter Tryz.func157, Tryz.ntmps157
 go_wp2
 go_loopg [4, 5] 2 (fun g s4 s5 wx => ∃ i : Nat, s4 = .bool true ∧ s5 = .int .i64 i ∧ i + 2 * g = 4 ∧ wx = w)
 case atStart => exact ⟨0, rfl, rfl, by omega, rfl⟩
 case round =>
  obtain ⟨i, rfl, rfl, hig, hw⟩ := hrel
  have hw := hw.symm
  subst hw
  cases gk with
  | succ g =>
   have hi : i = 0 ∨ i = 2 := by omega
   rcases hi with rfl | rfl
   ·go_wp2
    go_roundg g
    case measure => omega
    case rel => exact ⟨2, rfl, rfl, by omega, rfl⟩
   ·go_wp2
    go_roundg g
    case measure => omega
    case rel => exact ⟨4, rfl, rfl, by omega, rfl⟩
  | zero =>
   have hi : i = 4 := by omega
   subst hi
   obtain ⟨Z, hZs, hZv, hzb, hzz⟩ : ∃ Z : Array Value, Z.size = 256 ∧ (∀ k : Nat, k < 256 → Z[k]? = some (.int .u8 0)) ∧ (∀ w, (Instr.build 275 #[]).run Tryz.prog w = .ok (.agg Z) w) ∧ (∀ w, (zeroValue 275).run Tryz.prog w = .ok (.agg Z) w) :=
    ⟨Array.replicate 256 (.int .u8 0), by simp, fun k hk => by simp [hk], fun w => by kernel_rfl, fun w => by kernel_rfl⟩
   have hag : ∀ w, (isAgg 275).run Tryz.prog w = .ok true w := fun w => by kernel_rfl
   have hsz : ∀ w, (Go.sizeOf 275).run Tryz.prog w = .ok 256 w := fun w => by kernel_rfl
   have hone : Z.all (·.oneCell') = true := by
    rw [Array.all_eq_true]
    intro k hk
    have h1 := hZv k oMg
    rw [Array.getElem?_eq_getElem hk] at h1
    injection h1 with h1
    rw [h1]
    rfl
   have hst := run_storeCells_new (P := Tryz.prog) w 275 Z Z (by rw [hZs]; kernel_rfl) rfl hone
   have hA0 : Arr256 w.heap.size (w.alloc (.cells Z 275)) := ⟨Z, heap_alloc_new w _, hZs, fun k hk => ⟨0, hZv k hk, by omega, by omega⟩⟩
   have hB0 : Below w.heap.size w (w.alloc (.cells Z 275)) := (Below.refl _ w).alloc lRf _
   have hgl : g < w.heap.size := World.block_lt_of_cell? _ _ hg0
   go_wp2
   clear hst hone hzz hzb hag hsz hZv hZs
   go_loopg [61] 256 (fun g s61 wx => ∃ q : Nat, s61 = .int .i64 q ∧ q + g = 256 ∧ Arr256 w.heap.size wx ∧ Below w.heap.size w wx)
   case atStart => exact ⟨0, rfl, by omega, hA0, hB0⟩
   case round =>
    obtain ⟨q, rfl, hqg, hA, hB⟩ := hrel
    clear hA0 hB0
    cases gk with
    | succ g2 =>
     have hq : (q : Int) < 256 := by omega
     obtain ⟨z, c1, f1, _⟩ := hA.cell (q := q) oMg
     go_wp2
     go_roundg g2
     case measure => omega
     case rel => exact ⟨q + 1, by first | rfl | simp | (simp; omega), by omega, hA.set _ oMg, hB.setCell (p := ⟨_, q, none⟩) lRf _⟩
    | zero =>
     have hq : ¬ ((q : Int) < 256) := by omega
     go_wp2
     go_loopg [8] 2 (fun g s8 wx => ∃ q : Int, s8 = .int .i64 q ∧ (q + 2 = 2 * (g : Int) ∧ q ≤ 2) ∧ Arr256 w.heap.size wx ∧ Below w.heap.size w wx)
     case atStart => exact ⟨2, rfl, by omega, hA, hB⟩
     case round =>
      clear hA hB
      obtain ⟨q2, rfl, hqg2, hA, hB⟩ := hrel
      have c0 : wr.cell? ⟨g, 0, none⟩ = some (.string (s 0)) := by rw [hB.cell (p := ⟨g, 0, none⟩) hgl]; exact hg0
      have c1 : wr.cell? ⟨g, 1, none⟩ = some (.string (s 1)) := by rw [hB.cell (p := ⟨g, 1, none⟩) hgl]; exact hg1
      have c2 : wr.cell? ⟨g, 2, none⟩ = some (.string (s 2)) := by rw [hB.cell (p := ⟨g, 2, none⟩) hgl]; exact hg2
      have c3 : wr.cell? ⟨g, 3, none⟩ = some (.string (s 3)) := by rw [hB.cell (p := ⟨g, 3, none⟩) hgl]; exact hg3
      cases gk with
      | zero =>
       have hq2 : q2 = -2 := by omega
       subst hq2
       have hmi : ∀ (a : Option Addr) (w : World), (Instr.makeInterface 276 (.pointer a)).run Tryz.prog w = .ok (.iface 276 (.pointer a)) w := fun a w => by kernel_rfl
       go_wp2
       go_ret
       exact ⟨_, rfl, Nat.le_refl _, hA, hB⟩
      | succ g3 =>
       have hq2 : (q2 = 2 ∧ g3 = 1) ∨ (q2 = 0 ∧ g3 = 0) := by omega
       rcases hq2 with ⟨rfl, rfl⟩ | ⟨rfl, rfl⟩
       ·have hlt : 0 < (s 2).size := by omega
        have hlt2 : 0 < (s 3).size := by omega
        obtain ⟨z, d1, f1, _⟩ := hA.cell (q := ((s 2)[0]'hlt).toNat) (UInt8.toNat_lt _)
        have hb3 := UInt8.toNat_lt ((s 3)[0]'hlt2)
        have hb2 : ((((s 2)[0]'hlt).toNat : Nat) : Int) < 256 := by have := UInt8.toNat_lt ((s 2)[0]'hlt); omega
        go_wp2
        go_roundg 1
        case measure => omega
        case rel => exact ⟨0, rfl, by omega, hA.set _ oMg, hB.setCell (p := ⟨_, _, none⟩) lRf _⟩
       ·have hlt : 0 < (s 0).size := by omega
        have hlt2 : 0 < (s 1).size := by omega
        obtain ⟨z, d1, f1, _⟩ := hA.cell (q := ((s 0)[0]'hlt).toNat) (UInt8.toNat_lt _)
        have hb3 := UInt8.toNat_lt ((s 1)[0]'hlt2)
        have hb2 : ((((s 0)[0]'hlt).toNat : Nat) : Int) < 256 := by have := UInt8.toNat_lt ((s 0)[0]'hlt); omega
        go_wp2
        go_roundg 0
        case measure => omega
        case rel => exact ⟨-2, rfl, by omega, hA.set _ oMg, hB.setCell (p := ⟨_, _, none⟩) lRf _⟩
end Go.Proofs.YtagoolooikpabaaGreatDoor
namespace Go.Proofs.YtagoolooikpabaaGreatDoor
open Go Go.RowKit Go.Shelf
set_option maxRecDepth 100000
set_option maxHeartbeats 4000000
theorem onceRp (b g cap : Nat) (s : Nat → ByteArray) (w : World) (x3 : Value) (hs : ∀ k, k < 4 → (s k).size = 1) (h3 : w.cell? ⟨b, 3, none⟩ = some x3) (hb : w.cell? ⟨b, 4, none⟩ = some (.slice (some ⟨g, 0, none⟩) 4 cap)) (f3 : w.frozen? ⟨b, 3, none⟩ = false) (f4 : w.frozen? ⟨b, 4, none⟩ = false) (hg : ∀ k, k < 4 → w.cell? ⟨g, k, none⟩ = some (.string (s k))) :
  Calls Tryz.prog 95 #[.pointer (some ⟨b, 0, none⟩)] w fun e w' => e = .returned (.tuple #[]) ∧ ∃ r w2, w.heap.size ≤ r ∧ Arr256 r w2 ∧ Below w.heap.size w w2 ∧ w' = (w2.setCell ⟨b, 3, none⟩ (.iface 276 (.pointer (some ⟨r, 0, none⟩)))).setCell ⟨b, 4, none⟩ (.slice none 0 0) := by
 have hbl : b < w.heap.size := World.block_lt_of_cell? _ _ h3
 have e1 : ∀ args w, (callFunc 157 args).run Tryz.prog w = .ok (.enter 157 args) w := enters_of Tryz.func157 kRf rfl
 go_enter Tryz.func95, Tryz.ntmps95
 go_wp2_with (go_at_fn 157; refine (bldRp b g cap s w hs hb hg).mono ?_)
 rintro e w2 ⟨r, rfl, hr, hA, hB⟩
 have d3 : w2.cell? ⟨b, 3, none⟩ = some x3 := by rw [hB.cell (p := ⟨b, 3, none⟩) hbl]; exact h3
 have d4 : w2.cell? ⟨b, 4, none⟩ = some (.slice (some ⟨g, 0, none⟩) 4 cap) := by rw [hB.cell (p := ⟨b, 4, none⟩) hbl]; exact hb
 have q3 : w2.frozen? ⟨b, 3, none⟩ = false := by rw [hB.frozen (p := ⟨b, 3, none⟩) hbl]; exact f3
 have q4 : w2.frozen? ⟨b, 4, none⟩ = false := by rw [hB.frozen (p := ⟨b, 4, none⟩) hbl]; exact f4
 go_wp2
 go_end0
 exact ⟨rfl, r, w2, hr, hA, hB, rfl⟩
structure OnceAt (b : Nat) (w : World) : Prop where
 c0 : w.cell? ⟨b, 0, none⟩ = some (.int .u32 0)
 c1 : w.cell? ⟨b, 1, none⟩ = some (.int .i32 1)
 f0 : w.frozen? ⟨b, 0, none⟩ = false
 f1 : w.frozen? ⟨b, 1, none⟩ = false
theorem slowRp (b : Nat) (w : World) (R : World → Prop) (h0 : w.cell? ⟨b, 0, none⟩ = some (.int .u32 0)) (h1 : w.cell? ⟨b, 1, none⟩ = some (.int .i32 0)) (f0 : w.frozen? ⟨b, 0, none⟩ = false) (f1 : w.frozen? ⟨b, 1, none⟩ = false)
  (hf : Calls Tryz.prog 95 #[.pointer (some ⟨b, 0, none⟩)] (w.setCell ⟨b, 1, none⟩ (.int .i32 1)) fun e w2 => e = .returned (.tuple #[]) ∧ OnceAt b w2 ∧ R w2) :
  Calls Tryz.prog 156 #[.pointer (some ⟨b, 0, none⟩), .func (.func 95) #[.pointer (some ⟨b, 0, none⟩)] #[]] w fun e w' => e = .returned (.tuple #[]) ∧ ∃ w2, R w2 ∧ w' = (w2.drew.setCell ⟨b, 0, none⟩ (.int .u32 1)).setCell ⟨b, 1, none⟩ (.int .i32 0) := by
 have g0 : (w.setCell ⟨b, 1, none⟩ (.int .i32 1)).cell? ⟨b, 0, none⟩ = some (.int .u32 0) := (World.cell?_setCell_other _ ⟨b, 1, none⟩ ⟨b, 0, none⟩ _ sMp).trans h0
 have hld := loadF ⟨b, 0, none⟩ 0 _ g0
 have e1 : ∀ args w, (callFunc 196 args).run Tryz.prog w = .ok (.enter 196 args) w := enters_of Tryz.func196 kRf rfl
 have e2 : ∀ args w, (callFunc 155 args).run Tryz.prog w = .ok (.enter 155 args) w := enters_of Tryz.func155 kRf rfl
 have e3 : ∀ args w, (callFunc 95 args).run Tryz.prog w = .ok (.enter 95 args) w := enters_of Tryz.func95 kRf rfl
 have hnot : ∀ (x : Bool) (w : World), (Op.unary .not (.bool x)).run Tryz.prog w = .ok (.bool (!x)) w := fun _ _ => rfl
 go_enter_defers Tryz.func156, Tryz.ntmps156
 go_wp2_with (first
  | (go_at_fn 196; refine (lockF ⟨b, 1, none⟩ _ h1 f1).mono ?_; rintro e w' ⟨rfl, rfl⟩)
  | (go_at_fn 155; refine hld.mono ?_; rintro e w' ⟨rfl, rfl⟩)
  | (go_at_fn 95; refine hf.mono ?_; rintro e w2 ⟨rfl, hO, hR⟩))
 go_wp2
 refine leaves_cons (f := 198) (args := #[.pointer (some ⟨b, 0, none⟩), .bool true]) sMp (by simp [go_sem]) ?_
 refine (storeD ⟨b, 0, none⟩ (.int .u32 0) .returning _ hO.c0 hO.f0).mono ?_
 rintro e u' w'' ⟨rfl, rfl, rfl⟩
 refine leaves_cons (f := 197) (args := #[.pointer (some ⟨b, 1, none⟩)]) (by simp [settle]) (by simp [go_sem]) ?_
 refine (unlockD ⟨b, 1, none⟩ _ _ ?_ (by simp [hO.f1])).mono ?_
 ·refine (World.cell?_setCell_other _ ⟨b, 0, none⟩ ⟨b, 1, none⟩ _ sMp).trans ?_
  rw [World.cell?_drew]
  exact hO.c1
 rintro e u' w'' ⟨rfl, rfl, rfl⟩
 simp [Leaves, settle, results, Tryz.results156]
 exact ⟨w2, hR, rfl⟩
theorem doRp (b : Nat) (w : World) (R : World → Prop) (h0 : w.cell? ⟨b, 0, none⟩ = some (.int .u32 0)) (h1 : w.cell? ⟨b, 1, none⟩ = some (.int .i32 0)) (f0 : w.frozen? ⟨b, 0, none⟩ = false) (f1 : w.frozen? ⟨b, 1, none⟩ = false)
  (hf : Calls Tryz.prog 95 #[.pointer (some ⟨b, 0, none⟩)] (w.setCell ⟨b, 1, none⟩ (.int .i32 1)) fun e w2 => e = .returned (.tuple #[]) ∧ OnceAt b w2 ∧ R w2) :
  Calls Tryz.prog 94 #[.pointer (some ⟨b, 0, none⟩), .func (.func 95) #[.pointer (some ⟨b, 0, none⟩)] #[]] w fun e w' => e = .returned (.tuple #[]) ∧ ∃ w2, R w2 ∧ w' = (w2.drew.setCell ⟨b, 0, none⟩ (.int .u32 1)).setCell ⟨b, 1, none⟩ (.int .i32 0) := by
 have hld := loadF ⟨b, 0, none⟩ 0 _ h0
 have e2 : ∀ args w, (callFunc 155 args).run Tryz.prog w = .ok (.enter 155 args) w := enters_of Tryz.func155 kRf rfl
 have e3 : ∀ args w, (callFunc 156 args).run Tryz.prog w = .ok (.enter 156 args) w := enters_of Tryz.func156 kRf rfl
 have hnot : ∀ (x : Bool) (w : World), (Op.unary .not (.bool x)).run Tryz.prog w = .ok (.bool (!x)) w := fun _ _ => rfl
 go_enter Tryz.func94, Tryz.ntmps94
 go_wp2_with (first
  | (go_at_fn 155; refine hld.mono ?_; rintro e w' ⟨rfl, rfl⟩)
  | (go_at_fn 156; refine (slowRp b _ R h0 h1 f0 f1 hf).mono ?_; rintro e w' ⟨rfl, w2, hR, rfl⟩))
 go_end0
 exact ⟨rfl, w2, hR, rfl⟩
end Go.Proofs.YtagoolooikpabaaGreatDoor
namespace Go.Proofs.YtagoolooikpabaaGreatDoor
open Go Go.RowKit Go.Shelf
set_option maxRecDepth 100000
set_option maxHeartbeats 4000000
def BufAt (B n : Nat) (v : Value) (w : World) : Prop := v = .slice none 0 0 ∨ ∃ g cap cs fz, v = .slice (some ⟨g, 0, none⟩) n cap ∧ B ≤ g ∧ w.heap[g]? = some (.cells cs 5 fz) ∧ n ≤ fz.1 ∧ n ≤ cs.size ∧ ∀ k : Nat, k < n → ∃ z : Int, cs[k]? = some (.int .u8 z)
theorem buf_new (s : ByteArray) (cap B : Nat) (w : World) (hB : B ≤ w.heap.size) (hc : s.size ≤ (bytesRow s cap).size) : BufAt B s.size (.slice (some ⟨w.heap.size, 0, none⟩) s.size cap) (w.drew.alloc (.cells (bytesRow s cap) 5 ((bytesRow s cap).size, (bytesRow s cap).size + 1))) := by
 refine .inr ⟨w.heap.size, cap, bytesRow s cap, _, rfl, hB, heap_alloc_new w.drew _, hc, hc, fun k hk => ?_⟩
 unfold bytesRow
 rw [Array.getElem?_append_left (by simpa using hk)]
 simp only [Array.getElem?_map]
 exact ⟨_, by rw [Array.getElem?_eq_getElem (by simpa using hk)]; rfl⟩
theorem bytesRow_sz (s : ByteArray) (cap : Nat) : s.size ≤ (bytesRow s cap).size := by
 unfold bytesRow
 simp only [Array.size_append, Array.size_map]
 exact Nat.le_add_right _ _
theorem buf_set {B n g cap : Nat} {w : World} {cs : Array Value} {fz : Nat × Nat} (hB : B ≤ g) (h : w.heap[g]? = some (.cells cs 5 fz)) (h1 : n ≤ fz.1) (h2 : n ≤ cs.size) (h3 : ∀ k : Nat, k < n → ∃ z : Int, cs[k]? = some (.int .u8 z)) (i : Nat) (z : Int) : BufAt B n (.slice (some ⟨g, 0, none⟩) n cap) (w.setCell ⟨g, i, none⟩ (.int .u8 z)) := by
 refine .inr ⟨g, cap, cs.setIfInBounds i (.int .u8 z), fz, rfl, hB, by simp [World.setCell, Array.getElem?_modify, h], h1, by simpa using h2, fun k hk => ?_⟩
 by_cases e : i = k
 ·subst e
  exact ⟨z, by simp [Nat.lt_of_lt_of_le hk h2]⟩
 ·rw [Array.getElem?_setIfInBounds_ne e]
  exact h3 k hk
theorem brRp (r : Nat) (s : ByteArray) (w : World) (hA : Arr256 r w) (hs : s.size ≤ 1000000) :
  Calls Tryz.prog 346 #[.pointer (some ⟨r, 0, none⟩), .string s] w fun e w' => (∃ t : ByteArray, t.size = s.size ∧ e = .returned (.string t)) ∧ Below w.heap.size w w' := by
 have hrl : r < w.heap.size := by
  obtain ⟨z, c, _⟩ := hA.cell (q := 0) oMg
  exact World.block_lt_of_cell? _ _ c
 have mixed : Tryz.prog.follows .mixedOrders = true := by kernel_rfl
 have t131 : Tryz.prog.underlying 130 = some (.slice 5) := by kernel_rfl
 have t9 : Tryz.prog.underlying 9 = some .string := by kernel_rfl
 have t5 : Tryz.prog.underlying 5 = some (.int .u8) := by kernel_rfl
 have hnil : ∀ (a : Option Addr) (n c : Nat) (w : World), (binOp .eql 130 (.slice a n c) (.slice none 0 0)).run Tryz.prog w = .ok (.bool a.isNone) w := fun a n c w => Lib.run_eql_slice_nil w _ _ a n c 0 0 t131
 go_enter Tryz.func346, Tryz.ntmps346
 go_wp2
 go_loopg [5, 6] s.size (fun g s5 s6 wx => ∃ i : Nat, s6 = .int .i64 i ∧ i + g = s.size ∧ BufAt w.heap.size s.size s5 wx ∧ Below w.heap.size w wx)
 case atStart => exact ⟨0, rfl, by omega, .inl rfl, Below.refl _ w⟩
 case round =>
  obtain ⟨i, rfl, hig, hbuf, hB⟩ := hrel
  have hBw : w.heap.size ≤ wr.heap.size := hB.size
  cases gk with
  | succ g =>
   have hi : i < s.size := by omega
   have hi2 : (i : Int) < (s.size : Int) := by omega
   have hAr : Arr256 r wr := hA.same (hB.block r hrl)
   have hb2 : ((((s[i]'hi).toNat : Nat) : Int)) < 256 := by have := UInt8.toNat_lt (s[i]'hi); omega
   obtain ⟨z, c1, f1, hz⟩ := hAr.cell (q := (s[i]'hi).toNat) (UInt8.toNat_lt _)
   by_cases he : z = (((s[i]'hi).toNat : Nat) : Int)
   ·subst he
    go_wp2
    go_roundg g
    case measure => omega
    case rel => exact ⟨i + 1, by first | rfl | simp | (simp; omega), by omega, hbuf, hB⟩
   ·have hne : (z != (((s[i]'hi).toNat : Nat) : Int)) = true := by simpa using he
    rcases hbuf with rfl | ⟨gb, cap, cs, fz, rfl, hgb, hh, q1, q2, q3⟩
    ·have hcv := run_bytes_of_string (P := Tryz.prog) wr 9 130 5 s t9 t131 t5
     obtain ⟨CAP, hCAP⟩ : ∃ C, C = grownCap wr s.size 0 5 := ⟨_, rfl⟩
     rw [← hCAP] at hcv
     have hbn := buf_new s CAP w.heap.size wr hBw (bytesRow_sz s CAP)
     obtain ⟨W2, hW2⟩ : ∃ W2, W2 = wr.drew.alloc (.cells (bytesRow s CAP) 5 ((bytesRow s CAP).size, (bytesRow s CAP).size + 1)) := ⟨_, rfl⟩
     rw [← hW2] at hcv hbn
     have hB2 : Below w.heap.size w W2 := by rw [hW2]; exact (Below.drew hB).alloc hBw _
     have hAr2 : Arr256 r W2 := hA.same (hB2.block r hrl)
     obtain ⟨z2, c2, f2, _⟩ := hAr2.cell (q := (s[i]'hi).toNat) (UInt8.toNat_lt _)
     rcases hbn with hbn | ⟨gb, cap, cs, fz, hbn, hgb, hh, q1, q2, q3⟩
     ·cases hbn
     ·injection hbn with hbn1 _ hbn2
      injection hbn1 with hbn1
      injection hbn1 with hbn1
      subst hbn1 hbn2
      obtain ⟨y, hy⟩ := q3 i hi
      have c3 : W2.cell? ⟨wr.heap.size, i, none⟩ = some (.int .u8 y) := by simp [World.cell?, hh, hy]
      have f3 : W2.frozen? ⟨wr.heap.size, i, none⟩ = false := by simp [World.frozen?, hh]; omega
      clear hW2
      go_wp2
      go_roundg g
      case measure => omega
      case rel => exact ⟨i + 1, by first | rfl | simp | (simp; omega), by omega, buf_set hgb hh q1 q2 q3 i _, hB2.setCell (p := ⟨_, i, none⟩) hgb _⟩
    ·obtain ⟨y, hy⟩ := q3 i hi
     have c3 : wr.cell? ⟨gb, i, none⟩ = some (.int .u8 y) := by simp [World.cell?, hh, hy]
     have f3 : wr.frozen? ⟨gb, i, none⟩ = false := by simp [World.frozen?, hh]; omega
     go_wp2
     go_roundg g
     case measure => omega
     case rel => exact ⟨i + 1, by first | rfl | simp | (simp; omega), by omega, buf_set hgb hh q1 q2 q3 i _, hB.setCell (p := ⟨_, i, none⟩) hgb _⟩
  | zero =>
   have hi : ¬ ((i : Int) < (s.size : Int)) := by omega
   rcases hbuf with rfl | ⟨gb, cap, cs, fz, rfl, hgb, hh, q1, q2, q3⟩
   ·go_wp2
    go_ret
    exact ⟨⟨s, rfl, rfl⟩, hB⟩
   ·obtain ⟨xs, hx1, hx2⟩ : ∃ xs : List Int, xs.length = s.size ∧ ∀ k, k < s.size → wr.cell? ⟨gb, 0 + k, none⟩ = some (.int .u8 (xs.getD k 0)) := by
     refine ⟨(List.range s.size).map fun k => match cs[k]? with | some (Value.int _ z) => z | _ => 0, by simp, fun k hk => ?_⟩
     obtain ⟨z, hz⟩ := q3 k hk
     simp [World.cell?, hh, hz, List.getD, hk]
    have hcv := run_convert_bytes_arg (P := Tryz.prog) wr 130 5 t131 t5 gb 0 s.size cap xs hx1 hx2 9 t9
    have hsz := strOfNums_size xs
    go_wp2
    go_ret
    exact ⟨⟨_, by rw [hsz, hx1], rfl⟩, hB⟩
end Go.Proofs.YtagoolooikpabaaGreatDoor
namespace Go.Proofs.YtagoolooikpabaaGreatDoor
open Go Go.RowKit Go.Shelf
set_option maxRecDepth 100000
set_option maxHeartbeats 4000000
theorem heap_setCell_ne {w : World} {b k : Nat} (h : k ≠ b) (o : Nat) (v : Value) : (w.setCell ⟨b, o, none⟩ v).heap[k]? = w.heap[k]? := by
 simp only [World.setCell, Array.getElem?_modify]
 rw [if_neg (fun e => h e.symm)]
theorem setCell_sz (w : World) (a : Addr) (v : Value) : (w.setCell a v).heap.size = w.heap.size := by simp [World.setCell]
theorem grown_setCell {w w' : World} {b : Nat} (h : w.grownBy w' (some b)) (o : Nat) (v : Value) : w.grownBy (w'.setCell ⟨b, o, none⟩ v) (some b) :=
 ⟨h.os, h.tape, h.output, by rw [setCell_sz]; exact h.size, fun k hk hn => by
  rw [heap_setCell_ne (fun e => hn (by rw [e]))]
  exact h.block k hk hn⟩
theorem grown_below {w w' w2 : World} {b n : Nat} (h : w.grownBy w' (some b)) (hn : w.heap.size ≤ n) (g : Below n w' w2) : w.grownBy w2 (some b) :=
 ⟨g.os.trans h.os, g.tape.trans h.tape, g.output.trans h.output, Nat.le_trans h.size g.size, fun k hk hne => (g.block k oMg).trans (h.block k hk hne)⟩
structure RpDone (b : Nat) (w w' : World) (r : Nat) : Prop where
 hr : w.heap.size ≤ r
 arr : Arr256 r w'
 ifc : w'.cell? ⟨b, 3, none⟩ = some (.iface 276 (.pointer (some ⟨r, 0, none⟩)))
 grown : w.grownBy w' (some b)
theorem RpDone.set {b : Nat} {w w' : World} {r : Nat} (h : RpDone b w w' r) (hb : b < w.heap.size) (o : Nat) (ho : o ≠ 3) (v : Value) : RpDone b w (w'.setCell ⟨b, o, none⟩ v) r :=
 ⟨h.hr, h.arr.same (heap_setCell_ne (by have := h.hr; omega) o v), (World.cell?_setCell_other _ ⟨b, o, none⟩ ⟨b, 3, none⟩ _ (by simpa using ho)).trans h.ifc, grown_setCell h.grown o v⟩
theorem RpDone.drew {b : Nat} {w w' : World} {r : Nat} (h : RpDone b w w' r) : RpDone b w w'.drew r :=
 ⟨h.hr, h.arr, h.ifc, ⟨h.grown.os, h.grown.tape, h.grown.output, h.grown.size, h.grown.block⟩⟩
theorem repRp (b g cap : Nat) (s4 : Nat → ByteArray) (s : ByteArray) (w : World) (x3 : Value) (hs4 : ∀ k, k < 4 → (s4 k).size = 1) (hs : s.size ≤ 1000000)
  (h0 : w.cell? ⟨b, 0, none⟩ = some (.int .u32 0)) (h1 : w.cell? ⟨b, 1, none⟩ = some (.int .i32 0)) (h3 : w.cell? ⟨b, 3, none⟩ = some x3) (h4 : w.cell? ⟨b, 4, none⟩ = some (.slice (some ⟨g, 0, none⟩) 4 cap)) (hz : ∀ k, w.frozen? ⟨b, k, none⟩ = false) (hgb : g ≠ b) (hg : ∀ k, k < 4 → w.cell? ⟨g, k, none⟩ = some (.string (s4 k))) :
  Calls Tryz.prog 40 #[.pointer (some ⟨b, 0, none⟩), .string s] w fun e w' => (∃ t : ByteArray, t.size = s.size ∧ e = .returned (.string t)) ∧ w.grownBy w' (some b) := by
 have hbl : b < w.heap.size := World.block_lt_of_cell? _ _ h3
 have hdo := doRp b w (fun w' => ∃ r, RpDone b w w' r) h0 h1 (hz 0) (hz 1) (by
  have ho : ∀ (o : Nat), o ≠ 1 → (w.setCell ⟨b, 1, none⟩ (.int .i32 1)).cell? ⟨b, o, none⟩ = w.cell? ⟨b, o, none⟩ := fun o h => World.cell?_setCell_other _ ⟨b, 1, none⟩ ⟨b, o, none⟩ _ (by simpa using fun e => h e.symm)
  have hog : ∀ (o : Nat), (w.setCell ⟨b, 1, none⟩ (.int .i32 1)).cell? ⟨g, o, none⟩ = w.cell? ⟨g, o, none⟩ := fun o => World.cell?_setCell_other _ ⟨b, 1, none⟩ ⟨g, o, none⟩ _ (by simpa using fun e => absurd e.symm hgb)
  have hfz : ∀ (o : Nat), (w.setCell ⟨b, 1, none⟩ (.int .i32 1)).frozen? ⟨b, o, none⟩ = false := fun o => by simp [hz o]
  have hc1 : (w.setCell ⟨b, 1, none⟩ (.int .i32 1)).cell? ⟨b, 1, none⟩ = some (.int .i32 1) := World.cell?_setCell_same w _ _ h1
  have hgr : w.grownBy (w.setCell ⟨b, 1, none⟩ (.int .i32 1)) (some b) := grown_setCell ⟨rfl, rfl, rfl, Nat.le_refl _, fun _ _ _ => rfl⟩ 1 _
  have hsz := setCell_sz w ⟨b, 1, none⟩ (.int .i32 1)
  have h0' := (ho 0 (by decide)).trans h0
  have h3' := (ho 3 (by decide)).trans h3
  have h4' := (ho 4 (by decide)).trans h4
  have hg' : ∀ k, k < 4 → (w.setCell ⟨b, 1, none⟩ (.int .i32 1)).cell? ⟨g, k, none⟩ = some (.string (s4 k)) := fun k hk => (hog k).trans (hg k hk)
  generalize w.setCell ⟨b, 1, none⟩ (.int .i32 1) = w1 at *
  refine (onceRp b g cap s4 w1 x3 hs4 h3' h4' (hfz 3) (hfz 4) hg').mono ?_
  rintro e w' ⟨rfl, r, w2, q1, q2, q3, rfl⟩
  have hb2 : b < w1.heap.size := by omega
  have hk : ∀ o : Nat, w2.cell? ⟨b, o, none⟩ = w1.cell? ⟨b, o, none⟩ := fun o => q3.cell (p := ⟨b, o, none⟩) hb2
  have hkf : ∀ o : Nat, w2.frozen? ⟨b, o, none⟩ = false := fun o => by rw [q3.frozen (p := ⟨b, o, none⟩) hb2]; exact hfz o
  have hD : RpDone b w (w2.setCell ⟨b, 3, none⟩ (.iface 276 (.pointer (some ⟨r, 0, none⟩)))) r := by
   refine ⟨by omega, q2.same (heap_setCell_ne oMg _ _), World.cell?_setCell_same w2 _ _ ((hk 3).trans h3'), grown_setCell (grown_below hgr oMg q3) _ _⟩
  refine ⟨rfl, ⟨?_, ?_, ?_, ?_⟩, r, hD.set hbl 4 (by decide) _⟩
  ·exact (World.cell?_setCell_other _ ⟨b, 4, none⟩ ⟨b, 0, none⟩ _ sMp).trans ((World.cell?_setCell_other _ ⟨b, 3, none⟩ ⟨b, 0, none⟩ _ sMp).trans ((hk 0).trans h0'))
  ·exact (World.cell?_setCell_other _ ⟨b, 4, none⟩ ⟨b, 1, none⟩ _ sMp).trans ((World.cell?_setCell_other _ ⟨b, 3, none⟩ ⟨b, 1, none⟩ _ sMp).trans ((hk 1).trans hc1))
  ·simp [hkf 0]
  ·simp [hkf 1])
 have e1 : ∀ args w, (callFunc 94 args).run Tryz.prog w = .ok (.enter 94 args) w := enters_of Tryz.func94 kRf rfl
 have e2 : ∀ args w, (callFunc 346 args).run Tryz.prog w = .ok (.enter 346 args) w := enters_of Tryz.func346 kRf rfl
 have hmf : ∀ (fn : Fn) (first cap : Array Value) (w : World), (Instr.makeFunc fn first cap).run Tryz.prog w = .ok (.func fn first cap) w := fun _ _ _ _ => rfl
 go_enter Tryz.func40, Tryz.ntmps40
 have hdo2 : Calls Tryz.prog 94 #[.pointer (some ⟨b, 0, none⟩), .func (.func 95) #[.pointer (some ⟨b, 0, none⟩)] #[]] w fun e w' => e = .returned (.tuple #[]) ∧ ∃ r, RpDone b w w' r := hdo.mono (by
  rintro e w' ⟨rfl, w2, ⟨r, hD⟩, rfl⟩
  exact ⟨rfl, r, (hD.drew.set hbl 0 (by decide) (.int .u32 1)).set hbl 1 (by decide) (.int .i32 0)⟩)
 clear hdo
 have hcm : ∀ (a : Option Addr) (s : ByteArray) (w : World), (callMethod (.iface 276 (.pointer a)) "Replace" #[.string s]).run Tryz.prog w = .ok (.enter 346 #[.pointer a, .string s]) w := fun a s w => (show _ = (callFunc 346 #[.pointer a, .string s]).run Tryz.prog w from by kernel_rfl).trans (e2 _ _)
 go_wp2_with (first
  | (go_at_fn 94; refine hdo2.mono ?_; rintro e w3 ⟨rfl, r, hE⟩; have hifc := hE.ifc)
  | (go_at_fn 346; refine (brRp _ s _ hE.arr hs).mono ?_; rintro e w' ⟨⟨t, ht, rfl⟩, hB⟩))
 go_ret
 exact ⟨⟨t, ht, rfl⟩, grown_below hE.grown (by have := hE.grown.size; omega) hB⟩
end Go.Proofs.YtagoolooikpabaaGreatDoor
namespace Go.Proofs.YtagoolooikpabaaGreatDoor
open Go Go.RowKit
theorem add_block (a : Addr) (n : Nat) : (a.add n).block = a.block := by unfold Addr.add; split <;> rfl
theorem relRows_ints {w : World} {Z : Nat → Nat → Option Value} (hZ : ∀ b o v, w.cell? ⟨b, o, none⟩ = some v → Z b o = some v) {b : Nat} : ∀ (zs : List Int) (o : Nat), (∀ j (h : j < zs.length), w.cell? ⟨b, o + j, none⟩ = some (.int .i64 zs[j])) → relRows Z (zs.map encI) b o 1
 | [], _, _ => trivial
 | z :: zs, o, h => by
  refine ⟨⟨⟨_, hZ _ _ _ (h 0 sMp), rfl⟩, trivial⟩, relRows_ints hZ zs (o + 1) (fun j hj => ?_)⟩
  have := h (j + 1) (by simpa using hj)
  rw [show o + 1 + j = o + (j + 1) by omega]
  simpa using this
theorem law_top {f : FuncId} (zs : List Int) (h : ACalls Tryz.prog f [.c (.lst 1 (zs.map encI))] [] (fun v _ => v = (.c (.bool true)))) {a : Option Addr} {n cap : Nat} {w : World} (hkn : Kn (lowB w.heap.size) w) (hn : zs.length = n) (hc : n ≤ cap) (h0 : a = none → n = 0 ∧ cap = 0)
  (hz : ∀ x, a = some x → ∀ j, j < n → w.cell? (x.add j) = some (.int .i64 (zs.getD j 0))) : Calls Tryz.prog f #[.slice a n cap] w fun e w' => e = .returned (.bool true) ∧ Below w.heap.size w w' := by
 let Z : Nat → Nat → Option Value := fun b o => w.cell? ⟨b, o, none⟩
 have hs : Sim (lowB w.heap.size) w ⟨fun _ => default, Z⟩ [] w := by
  refine ⟨⟨rfl, rfl, rfl, Nat.le_refl _, fun _ _ => rfl⟩, fun _ hk => hk, hkn, fun i o h => by simp at h, fun i o h => by simp at h, fun i j o o' _ h => by simp at h, fun i o h => by simp at h, fun b o v hv => ?_, fun i o h => by simp at h⟩
  have hv' : w.cell? ⟨b, o, none⟩ = some v := hv
  unfold World.cell? at hv'
  split at hv'
  ·rename_i cur ty fr hb
   exact ⟨cur, ty, fr, hb, by simpa using hv'⟩
  ·cases hv'
 have hr : argsRel ⟨fun _ => default, Z⟩ [.c (.lst 1 (zs.map encI))] #[.slice a n cap] := by
  refine ⟨⟨a, cap, by simp [hn], by simp [hn, hc], by simp [encI], fun ha => ?_, fun x hx => ⟨?_, ?_⟩⟩, trivial⟩
  ·obtain ⟨h1, h2⟩ := h0 ha
   subst h1
   exact ⟨by simpa using hn, h2⟩
  ·by_cases h1 : zs.length = 0
   ·left; simpa using h1
   ·right
    have h2 := World.cell?_spot (hz x hx 0 oMg)
    simpa [Addr.add] using h2
  ·refine relRows_ints (w := w) (fun b o v h => h) zs x.off (fun j hj => ?_)
   have h1 := hz x hx j oMg
   have h2 : x.add j = ⟨x.block, x.off + j, none⟩ := by
    have h3 := World.cell?_spot h1
    unfold Addr.add at h3 ⊢
    split
    ·rename_i h4
     subst h4
     rw [if_pos rfl] at h3
     cases x
     simp_all
    ·rfl
   rw [h2] at h1
   rw [h1]
   simp [List.getD, hj]
 refine (h (lowB w.heap.size) w _ w _ hs hr (by intro x hx; simp at hx; subst hx; trivial)).mono fun e w' he => ?_
 obtain ⟨ι2, u, av, H', rfl, k2, k3, k4, k5, k6, rfl⟩ := he
 have : u = .bool true := k5
 subst this
 exact ⟨rfl, k4.below.low⟩
theorem cLs {P : Prop} (h : P := by first | assumption | exact HOk.str (by assumption) | (simp; done) | (simp; omega) | (simp [pureO_gr, AObj.pureO, pureL, go_sem, AC.pure]; done) | (simp only [List.all_cons, List.all_nil, Bool.and_true]; exact pureO_gr (pureL_map _ (fun x => by simp [go_sem, AC.pure]))) | ((try simp only [List.map_cons, List.map_nil, av_ren_gr]); simp [AV.ren, AV.ren1, AC.ren, renP, pickS]; first | done | omega) | (simp only [List.forall_mem_cons, List.not_mem_nil, false_implies, implies_true, and_true]; (repeat' apply And.intro) <;> first | trivial | exact grV_ok (by simp) _ | exact okN_grO (fun x => by simp [go_sem, AC.pure]) | exact okN_map (fun x => by simp [go_sem, AC.pure]) | (simp [AV.ok, AV.ok1, AC.ok]; done) | (simp [AV.ok, AV.ok1, AC.ok]; omega) | (simp [AObj.okN, AC.ok]; done)) | (simp [AObj.okN]; done)) : P := h
end Go.Proofs.YtagoolooikpabaaGreatDoor
