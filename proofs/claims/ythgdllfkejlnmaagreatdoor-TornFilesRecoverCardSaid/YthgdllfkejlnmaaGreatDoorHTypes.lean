/- Facts on the types. No condition. -/
import Derived.Test.YthgdllfkejlnmaaGreatDoorRows
import Derived.Test.YthgdllfkejlnmaaGreatDoorHCoreC
namespace Go.Proofs.YthgdllfkejlnmaaGreatDoor
open Go Go.RowKit
@[go_sem] theorem t3_ag : aggT Tryz.prog 3 = false := by kernel_rfl
@[go_sem] theorem t3_sz : szT Tryz.prog 3 = 1 := by kernel_rfl
@[go_sem] theorem t3_in : (Tryz.prog.info? 3).isSome = true := by kernel_rfl
@[go_sem] theorem t3_un : (Tryz.prog.underlying 3).isSome = true := by kernel_rfl
@[go_sem] theorem t3_ze : zeroT Tryz.prog 3 = some [.int .i64 0] := by kernel_rfl
@[go_sem] theorem t3_by : Tryz.prog.bytesOf 3 = 8 := by kernel_rfl
@[go_sem] theorem t4_ag : aggT Tryz.prog 4 = false := by kernel_rfl
@[go_sem] theorem t4_sz : szT Tryz.prog 4 = 1 := by kernel_rfl
@[go_sem] theorem t4_in : (Tryz.prog.info? 4).isSome = true := by kernel_rfl
@[go_sem] theorem t4_un : (Tryz.prog.underlying 4).isSome = true := by kernel_rfl
@[go_sem] theorem t4_ze : zeroT Tryz.prog 4 = some [.bool false] := by kernel_rfl
@[go_sem] theorem t4_by : Tryz.prog.bytesOf 4 = 1 := by kernel_rfl
@[go_sem] theorem t5_ag : aggT Tryz.prog 5 = false := by kernel_rfl
@[go_sem] theorem t5_sz : szT Tryz.prog 5 = 1 := by kernel_rfl
@[go_sem] theorem t5_in : (Tryz.prog.info? 5).isSome = true := by kernel_rfl
@[go_sem] theorem t5_un : (Tryz.prog.underlying 5).isSome = true := by kernel_rfl
@[go_sem] theorem t5_ze : zeroT Tryz.prog 5 = some [.int .u8 0] := by kernel_rfl
@[go_sem] theorem t5_by : Tryz.prog.bytesOf 5 = 1 := by kernel_rfl
@[go_sem] theorem t9_ag : aggT Tryz.prog 9 = false := by kernel_rfl
@[go_sem] theorem t9_sz : szT Tryz.prog 9 = 1 := by kernel_rfl
@[go_sem] theorem t9_in : (Tryz.prog.info? 9).isSome = true := by kernel_rfl
@[go_sem] theorem t9_un : (Tryz.prog.underlying 9).isSome = true := by kernel_rfl
@[go_sem] theorem t9_ze : zeroT Tryz.prog 9 = some [.str ⟨#[]⟩] := by kernel_rfl
@[go_sem] theorem t9_by : Tryz.prog.bytesOf 9 = 16 := by kernel_rfl
@[go_sem] theorem t22_ag : aggT Tryz.prog 22 = false := by kernel_rfl
@[go_sem] theorem t22_sz : szT Tryz.prog 22 = 1 := by kernel_rfl
@[go_sem] theorem t22_in : (Tryz.prog.info? 22).isSome = true := by kernel_rfl
@[go_sem] theorem t22_un : (Tryz.prog.underlying 22).isSome = true := by kernel_rfl
@[go_sem] theorem t22_ze : zeroT Tryz.prog 22 = some [.sl none 0] := by kernel_rfl
@[go_sem] theorem t22_by : Tryz.prog.bytesOf 22 = 24 := by kernel_rfl
@[go_sem] theorem t25_ag : aggT Tryz.prog 25 = true := by kernel_rfl
@[go_sem] theorem t25_sz : szT Tryz.prog 25 = 2 := by kernel_rfl
@[go_sem] theorem t25_in : (Tryz.prog.info? 25).isSome = true := by kernel_rfl
@[go_sem] theorem t25_un : (Tryz.prog.underlying 25).isSome = true := by kernel_rfl
@[go_sem] theorem t25_ze : zeroT Tryz.prog 25 = some [.sl none 0, .int .i64 0] := by kernel_rfl
@[go_sem] theorem t25_by : Tryz.prog.bytesOf 25 = 32 := by kernel_rfl
@[go_sem] theorem t25_fo : fieldsOk Tryz.prog 25 = true := by kernel_rfl
@[go_sem] theorem t28_ag : aggT Tryz.prog 28 = false := by kernel_rfl
@[go_sem] theorem t28_sz : szT Tryz.prog 28 = 1 := by kernel_rfl
@[go_sem] theorem t28_in : (Tryz.prog.info? 28).isSome = true := by kernel_rfl
@[go_sem] theorem t28_un : (Tryz.prog.underlying 28).isSome = true := by kernel_rfl
@[go_sem] theorem t28_ze : zeroT Tryz.prog 28 = some [.sl none 0] := by kernel_rfl
@[go_sem] theorem t28_by : Tryz.prog.bytesOf 28 = 24 := by kernel_rfl
@[go_sem] theorem t29_ag : aggT Tryz.prog 29 = false := by kernel_rfl
@[go_sem] theorem t29_sz : szT Tryz.prog 29 = 1 := by kernel_rfl
@[go_sem] theorem t29_in : (Tryz.prog.info? 29).isSome = true := by kernel_rfl
@[go_sem] theorem t29_un : (Tryz.prog.underlying 29).isSome = true := by kernel_rfl
@[go_sem] theorem t29_ze : zeroT Tryz.prog 29 = some [.int .i64 0] := by kernel_rfl
@[go_sem] theorem t29_by : Tryz.prog.bytesOf 29 = 8 := by kernel_rfl
@[go_sem] theorem t45_ag : aggT Tryz.prog 45 = true := by kernel_rfl
@[go_sem] theorem t45_sz : szT Tryz.prog 45 = 7 := by kernel_rfl
@[go_sem] theorem t45_in : (Tryz.prog.info? 45).isSome = true := by kernel_rfl
@[go_sem] theorem t45_un : (Tryz.prog.underlying 45).isSome = true := by kernel_rfl
@[go_sem] theorem t45_ze : zeroT Tryz.prog 45 = some [.int .i64 0, .int .i64 0, .str ⟨#[]⟩, .int .i64 0, .int .i64 0, .int .i64 0, .bool false] := by kernel_rfl
@[go_sem] theorem t45_by : Tryz.prog.bytesOf 45 = 64 := by kernel_rfl
@[go_sem] theorem t45_fo : fieldsOk Tryz.prog 45 = true := by kernel_rfl
@[go_sem] theorem t49_ag : aggT Tryz.prog 49 = false := by kernel_rfl
@[go_sem] theorem t49_sz : szT Tryz.prog 49 = 1 := by kernel_rfl
@[go_sem] theorem t49_in : (Tryz.prog.info? 49).isSome = true := by kernel_rfl
@[go_sem] theorem t49_un : (Tryz.prog.underlying 49).isSome = true := by kernel_rfl
@[go_sem] theorem t49_ze : zeroT Tryz.prog 49 = some [.sl none 0] := by kernel_rfl
@[go_sem] theorem t49_by : Tryz.prog.bytesOf 49 = 24 := by kernel_rfl
@[go_sem] theorem t56_ag : aggT Tryz.prog 56 = true := by kernel_rfl
@[go_sem] theorem t56_sz : szT Tryz.prog 56 = 3 := by kernel_rfl
@[go_sem] theorem t56_in : (Tryz.prog.info? 56).isSome = true := by kernel_rfl
@[go_sem] theorem t56_un : (Tryz.prog.underlying 56).isSome = true := by kernel_rfl
@[go_sem] theorem t56_ze : zeroT Tryz.prog 56 = some [.int .i64 0, .int .i64 0, .int .i64 0] := by kernel_rfl
@[go_sem] theorem t56_by : Tryz.prog.bytesOf 56 = 24 := by kernel_rfl
@[go_sem] theorem t56_fo : fieldsOk Tryz.prog 56 = true := by kernel_rfl
@[go_sem] theorem t58_ag : aggT Tryz.prog 58 = true := by kernel_rfl
@[go_sem] theorem t58_sz : szT Tryz.prog 58 = 5 := by kernel_rfl
@[go_sem] theorem t58_in : (Tryz.prog.info? 58).isSome = true := by kernel_rfl
@[go_sem] theorem t58_un : (Tryz.prog.underlying 58).isSome = true := by kernel_rfl
@[go_sem] theorem t58_ze : zeroT Tryz.prog 58 = some [.int .i64 0, .str ⟨#[]⟩, .int .i64 0, .int .i64 0, .int .i64 0] := by kernel_rfl
@[go_sem] theorem t58_by : Tryz.prog.bytesOf 58 = 48 := by kernel_rfl
@[go_sem] theorem t58_fo : fieldsOk Tryz.prog 58 = true := by kernel_rfl
@[go_sem] theorem t61_ag : aggT Tryz.prog 61 = true := by kernel_rfl
@[go_sem] theorem t61_sz : szT Tryz.prog 61 = 2 := by kernel_rfl
@[go_sem] theorem t61_in : (Tryz.prog.info? 61).isSome = true := by kernel_rfl
@[go_sem] theorem t61_un : (Tryz.prog.underlying 61).isSome = true := by kernel_rfl
@[go_sem] theorem t61_ze : zeroT Tryz.prog 61 = some [.int .i64 0, .int .i64 0] := by kernel_rfl
@[go_sem] theorem t61_by : Tryz.prog.bytesOf 61 = 16 := by kernel_rfl
@[go_sem] theorem t61_fo : fieldsOk Tryz.prog 61 = true := by kernel_rfl
@[go_sem] theorem t65_ag : aggT Tryz.prog 65 = false := by kernel_rfl
@[go_sem] theorem t65_sz : szT Tryz.prog 65 = 1 := by kernel_rfl
@[go_sem] theorem t65_in : (Tryz.prog.info? 65).isSome = true := by kernel_rfl
@[go_sem] theorem t65_un : (Tryz.prog.underlying 65).isSome = true := by kernel_rfl
@[go_sem] theorem t65_ze : zeroT Tryz.prog 65 = some [.sl none 0] := by kernel_rfl
@[go_sem] theorem t65_by : Tryz.prog.bytesOf 65 = 24 := by kernel_rfl
@[go_sem] theorem t69_ag : aggT Tryz.prog 69 = true := by kernel_rfl
@[go_sem] theorem t69_sz : szT Tryz.prog 69 = 7 := by kernel_rfl
@[go_sem] theorem t69_in : (Tryz.prog.info? 69).isSome = true := by kernel_rfl
@[go_sem] theorem t69_un : (Tryz.prog.underlying 69).isSome = true := by kernel_rfl
@[go_sem] theorem t69_ze : zeroT Tryz.prog 69 = some [.int .i64 0, .int .i64 0, .int .i64 0, .str ⟨#[]⟩, .int .i64 0, .int .i64 0, .int .i64 0] := by kernel_rfl
@[go_sem] theorem t69_by : Tryz.prog.bytesOf 69 = 64 := by kernel_rfl
@[go_sem] theorem t69_fo : fieldsOk Tryz.prog 69 = true := by kernel_rfl
@[go_sem] theorem t81_ag : aggT Tryz.prog 81 = false := by kernel_rfl
@[go_sem] theorem t81_sz : szT Tryz.prog 81 = 1 := by kernel_rfl
@[go_sem] theorem t81_in : (Tryz.prog.info? 81).isSome = true := by kernel_rfl
@[go_sem] theorem t81_un : (Tryz.prog.underlying 81).isSome = true := by kernel_rfl
@[go_sem] theorem t81_ze : zeroT Tryz.prog 81 = some [.sl none 0] := by kernel_rfl
@[go_sem] theorem t81_by : Tryz.prog.bytesOf 81 = 24 := by kernel_rfl
@[go_sem] theorem t88_ag : aggT Tryz.prog 88 = true := by kernel_rfl
@[go_sem] theorem t88_sz : szT Tryz.prog 88 = 7 := by kernel_rfl
@[go_sem] theorem t88_in : (Tryz.prog.info? 88).isSome = true := by kernel_rfl
@[go_sem] theorem t88_un : (Tryz.prog.underlying 88).isSome = true := by kernel_rfl
@[go_sem] theorem t88_ze : zeroT Tryz.prog 88 = some [.str ⟨#[]⟩, .int .i64 0, .int .i64 0, .str ⟨#[]⟩, .int .i64 0, .int .i64 0, .int .i64 0] := by kernel_rfl
@[go_sem] theorem t88_by : Tryz.prog.bytesOf 88 = 72 := by kernel_rfl
@[go_sem] theorem t88_fo : fieldsOk Tryz.prog 88 = true := by kernel_rfl
@[go_sem] theorem t100_ag : aggT Tryz.prog 100 = false := by kernel_rfl
@[go_sem] theorem t100_sz : szT Tryz.prog 100 = 1 := by kernel_rfl
@[go_sem] theorem t100_in : (Tryz.prog.info? 100).isSome = true := by kernel_rfl
@[go_sem] theorem t100_un : (Tryz.prog.underlying 100).isSome = true := by kernel_rfl
@[go_sem] theorem t100_ze : zeroT Tryz.prog 100 = some [.sl none 0] := by kernel_rfl
@[go_sem] theorem t100_by : Tryz.prog.bytesOf 100 = 24 := by kernel_rfl
@[go_sem] theorem t101_ag : aggT Tryz.prog 101 = false := by kernel_rfl
@[go_sem] theorem t101_sz : szT Tryz.prog 101 = 1 := by kernel_rfl
@[go_sem] theorem t101_in : (Tryz.prog.info? 101).isSome = true := by kernel_rfl
@[go_sem] theorem t101_un : (Tryz.prog.underlying 101).isSome = true := by kernel_rfl
@[go_sem] theorem t101_ze : zeroT Tryz.prog 101 = some [.map none] := by kernel_rfl
@[go_sem] theorem t101_by : Tryz.prog.bytesOf 101 = 8 := by kernel_rfl
@[go_sem] theorem t103_ag : aggT Tryz.prog 103 = true := by kernel_rfl
@[go_sem] theorem t103_sz : szT Tryz.prog 103 = 4 := by kernel_rfl
@[go_sem] theorem t103_in : (Tryz.prog.info? 103).isSome = true := by kernel_rfl
@[go_sem] theorem t103_un : (Tryz.prog.underlying 103).isSome = true := by kernel_rfl
@[go_sem] theorem t103_ze : zeroT Tryz.prog 103 = some [.sl none 0, .int .i64 0, .sl none 0, .map none] := by kernel_rfl
@[go_sem] theorem t103_by : Tryz.prog.bytesOf 103 = 64 := by kernel_rfl
@[go_sem] theorem t103_fo : fieldsOk Tryz.prog 103 = true := by kernel_rfl
@[go_sem] theorem t105_ag : aggT Tryz.prog 105 = true := by kernel_rfl
@[go_sem] theorem t105_sz : szT Tryz.prog 105 = 8 := by kernel_rfl
@[go_sem] theorem t105_in : (Tryz.prog.info? 105).isSome = true := by kernel_rfl
@[go_sem] theorem t105_un : (Tryz.prog.underlying 105).isSome = true := by kernel_rfl
@[go_sem] theorem t105_ze : zeroT Tryz.prog 105 = some [.int .i64 0, .int .i64 0, .str ⟨#[]⟩, .int .i64 0, .int .i64 0, .int .i64 0, .bool false, .sl none 0] := by kernel_rfl
@[go_sem] theorem t105_by : Tryz.prog.bytesOf 105 = 88 := by kernel_rfl
@[go_sem] theorem t105_fo : fieldsOk Tryz.prog 105 = true := by kernel_rfl
@[go_sem] theorem t113_ag : aggT Tryz.prog 113 = false := by kernel_rfl
@[go_sem] theorem t113_sz : szT Tryz.prog 113 = 1 := by kernel_rfl
@[go_sem] theorem t113_in : (Tryz.prog.info? 113).isSome = true := by kernel_rfl
@[go_sem] theorem t113_un : (Tryz.prog.underlying 113).isSome = true := by kernel_rfl
@[go_sem] theorem t113_ze : zeroT Tryz.prog 113 = some [.sl none 0] := by kernel_rfl
@[go_sem] theorem t113_by : Tryz.prog.bytesOf 113 = 24 := by kernel_rfl
@[go_sem] theorem t114_ag : aggT Tryz.prog 114 = false := by kernel_rfl
@[go_sem] theorem t114_sz : szT Tryz.prog 114 = 1 := by kernel_rfl
@[go_sem] theorem t114_in : (Tryz.prog.info? 114).isSome = true := by kernel_rfl
@[go_sem] theorem t114_un : (Tryz.prog.underlying 114).isSome = true := by kernel_rfl
@[go_sem] theorem t114_ze : zeroT Tryz.prog 114 = some [.map none] := by kernel_rfl
@[go_sem] theorem t114_by : Tryz.prog.bytesOf 114 = 8 := by kernel_rfl
@[go_sem] theorem t116_ag : aggT Tryz.prog 116 = true := by kernel_rfl
@[go_sem] theorem t116_sz : szT Tryz.prog 116 = 11 := by kernel_rfl
@[go_sem] theorem t116_in : (Tryz.prog.info? 116).isSome = true := by kernel_rfl
@[go_sem] theorem t116_un : (Tryz.prog.underlying 116).isSome = true := by kernel_rfl
@[go_sem] theorem t116_ze : zeroT Tryz.prog 116 = some [.int .i64 0, .int .i64 0, .int .i64 0, .sl none 0, .map none, .int .i64 0, .sl none 0, .sl none 0, .sl none 0, .sl none 0, .int .i64 0] := by kernel_rfl
@[go_sem] theorem t116_by : Tryz.prog.bytesOf 116 = 168 := by kernel_rfl
@[go_sem] theorem t116_fo : fieldsOk Tryz.prog 116 = true := by kernel_rfl
@[go_sem] theorem t120_ag : aggT Tryz.prog 120 = true := by kernel_rfl
@[go_sem] theorem t120_sz : szT Tryz.prog 120 = 6 := by kernel_rfl
@[go_sem] theorem t120_in : (Tryz.prog.info? 120).isSome = true := by kernel_rfl
@[go_sem] theorem t120_un : (Tryz.prog.underlying 120).isSome = true := by kernel_rfl
@[go_sem] theorem t120_ze : zeroT Tryz.prog 120 = some [.int .i64 0, .str ⟨#[]⟩, .int .i64 0, .int .i64 0, .int .i64 0, .bool false] := by kernel_rfl
@[go_sem] theorem t120_by : Tryz.prog.bytesOf 120 = 56 := by kernel_rfl
@[go_sem] theorem t120_fo : fieldsOk Tryz.prog 120 = true := by kernel_rfl
@[go_sem] theorem t134_ag : aggT Tryz.prog 134 = false := by kernel_rfl
@[go_sem] theorem t134_sz : szT Tryz.prog 134 = 1 := by kernel_rfl
@[go_sem] theorem t134_in : (Tryz.prog.info? 134).isSome = true := by kernel_rfl
@[go_sem] theorem t134_un : (Tryz.prog.underlying 134).isSome = true := by kernel_rfl
@[go_sem] theorem t134_ze : zeroT Tryz.prog 134 = some [.sl none 0] := by kernel_rfl
@[go_sem] theorem t134_by : Tryz.prog.bytesOf 134 = 24 := by kernel_rfl
@[go_sem] theorem t135_ag : aggT Tryz.prog 135 = false := by kernel_rfl
@[go_sem] theorem t135_sz : szT Tryz.prog 135 = 1 := by kernel_rfl
@[go_sem] theorem t135_in : (Tryz.prog.info? 135).isSome = true := by kernel_rfl
@[go_sem] theorem t135_un : (Tryz.prog.underlying 135).isSome = true := by kernel_rfl
@[go_sem] theorem t135_ze : zeroT Tryz.prog 135 = some [.ptr none] := by kernel_rfl
@[go_sem] theorem t135_by : Tryz.prog.bytesOf 135 = 8 := by kernel_rfl
@[go_sem] theorem t140_ag : aggT Tryz.prog 140 = true := by kernel_rfl
@[go_sem] theorem t140_sz : szT Tryz.prog 140 = 2 := by kernel_rfl
@[go_sem] theorem t140_in : (Tryz.prog.info? 140).isSome = true := by kernel_rfl
@[go_sem] theorem t140_un : (Tryz.prog.underlying 140).isSome = true := by kernel_rfl
@[go_sem] theorem t140_ze : zeroT Tryz.prog 140 = some [.int .i64 0, .int .i64 0] := by kernel_rfl
@[go_sem] theorem t140_by : Tryz.prog.bytesOf 140 = 16 := by kernel_rfl
@[go_sem] theorem t140_fo : fieldsOk Tryz.prog 140 = true := by kernel_rfl
@[go_sem] theorem t142_ag : aggT Tryz.prog 142 = false := by kernel_rfl
@[go_sem] theorem t142_sz : szT Tryz.prog 142 = 1 := by kernel_rfl
@[go_sem] theorem t142_in : (Tryz.prog.info? 142).isSome = true := by kernel_rfl
@[go_sem] theorem t142_un : (Tryz.prog.underlying 142).isSome = true := by kernel_rfl
@[go_sem] theorem t142_ze : zeroT Tryz.prog 142 = some [.nilf] := by kernel_rfl
@[go_sem] theorem t142_by : Tryz.prog.bytesOf 142 = 8 := by kernel_rfl
@[go_sem] theorem t168_ag : aggT Tryz.prog 168 = false := by kernel_rfl
@[go_sem] theorem t168_sz : szT Tryz.prog 168 = 1 := by kernel_rfl
@[go_sem] theorem t168_in : (Tryz.prog.info? 168).isSome = true := by kernel_rfl
@[go_sem] theorem t168_un : (Tryz.prog.underlying 168).isSome = true := by kernel_rfl
@[go_sem] theorem t168_ze : zeroT Tryz.prog 168 = some [.int .u64 0] := by kernel_rfl
@[go_sem] theorem t168_by : Tryz.prog.bytesOf 168 = 8 := by kernel_rfl
@[go_sem] theorem t177_ag : aggT Tryz.prog 177 = true := by kernel_rfl
@[go_sem] theorem t177_sz : szT Tryz.prog 177 = 3 := by kernel_rfl
@[go_sem] theorem t177_in : (Tryz.prog.info? 177).isSome = true := by kernel_rfl
@[go_sem] theorem t177_un : (Tryz.prog.underlying 177).isSome = true := by kernel_rfl
@[go_sem] theorem t177_ze : zeroT Tryz.prog 177 = some [.int .i64 0, .int .i64 0, .str ⟨#[]⟩] := by kernel_rfl
@[go_sem] theorem t177_by : Tryz.prog.bytesOf 177 = 32 := by kernel_rfl
@[go_sem] theorem t177_fo : fieldsOk Tryz.prog 177 = true := by kernel_rfl
@[go_sem] theorem t179_ag : aggT Tryz.prog 179 = true := by kernel_rfl
@[go_sem] theorem t179_sz : szT Tryz.prog 179 = 7 := by kernel_rfl
@[go_sem] theorem t179_in : (Tryz.prog.info? 179).isSome = true := by kernel_rfl
@[go_sem] theorem t179_un : (Tryz.prog.underlying 179).isSome = true := by kernel_rfl
@[go_sem] theorem t179_ze : zeroT Tryz.prog 179 = some [.str ⟨#[]⟩, .int .i64 0, .int .i64 0, .str ⟨#[]⟩, .int .i64 0, .int .i64 0, .int .i64 0] := by kernel_rfl
@[go_sem] theorem t179_by : Tryz.prog.bytesOf 179 = 72 := by kernel_rfl
@[go_sem] theorem t179_fo : fieldsOk Tryz.prog 179 = true := by kernel_rfl
@[go_sem] theorem t183_ag : aggT Tryz.prog 183 = true := by kernel_rfl
@[go_sem] theorem t183_sz : szT Tryz.prog 183 = 2 := by kernel_rfl
@[go_sem] theorem t183_in : (Tryz.prog.info? 183).isSome = true := by kernel_rfl
@[go_sem] theorem t183_un : (Tryz.prog.underlying 183).isSome = true := by kernel_rfl
@[go_sem] theorem t183_ze : zeroT Tryz.prog 183 = some [.str ⟨#[]⟩, .sl none 0] := by kernel_rfl
@[go_sem] theorem t183_by : Tryz.prog.bytesOf 183 = 40 := by kernel_rfl
@[go_sem] theorem t183_fo : fieldsOk Tryz.prog 183 = true := by kernel_rfl
@[go_sem] theorem t184_ag : aggT Tryz.prog 184 = false := by kernel_rfl
@[go_sem] theorem t184_sz : szT Tryz.prog 184 = 1 := by kernel_rfl
@[go_sem] theorem t184_in : (Tryz.prog.info? 184).isSome = true := by kernel_rfl
@[go_sem] theorem t184_un : (Tryz.prog.underlying 184).isSome = true := by kernel_rfl
@[go_sem] theorem t184_ze : zeroT Tryz.prog 184 = some [.sl none 0] := by kernel_rfl
@[go_sem] theorem t184_by : Tryz.prog.bytesOf 184 = 24 := by kernel_rfl
@[go_sem] theorem t186_ag : aggT Tryz.prog 186 = true := by kernel_rfl
@[go_sem] theorem t186_sz : szT Tryz.prog 186 = 5 := by kernel_rfl
@[go_sem] theorem t186_in : (Tryz.prog.info? 186).isSome = true := by kernel_rfl
@[go_sem] theorem t186_un : (Tryz.prog.underlying 186).isSome = true := by kernel_rfl
@[go_sem] theorem t186_ze : zeroT Tryz.prog 186 = some [.str ⟨#[]⟩, .int .i64 0, .str ⟨#[]⟩, .sl none 0, .bool false] := by kernel_rfl
@[go_sem] theorem t186_by : Tryz.prog.bytesOf 186 = 72 := by kernel_rfl
@[go_sem] theorem t186_fo : fieldsOk Tryz.prog 186 = true := by kernel_rfl
@[go_sem] theorem t197_ag : aggT Tryz.prog 197 = true := by kernel_rfl
@[go_sem] theorem t197_sz : szT Tryz.prog 197 = 6 := by kernel_rfl
@[go_sem] theorem t197_in : (Tryz.prog.info? 197).isSome = true := by kernel_rfl
@[go_sem] theorem t197_un : (Tryz.prog.underlying 197).isSome = true := by kernel_rfl
@[go_sem] theorem t197_ze : zeroT Tryz.prog 197 = some [.int .i64 0, .int .i64 0, .int .i64 0, .int .i64 0, .int .i64 0, .int .i64 0] := by kernel_rfl
@[go_sem] theorem t197_by : Tryz.prog.bytesOf 197 = 48 := by kernel_rfl
@[go_sem] theorem t197_fo : fieldsOk Tryz.prog 197 = true := by kernel_rfl
@[go_sem] theorem t201_ag : aggT Tryz.prog 201 = true := by kernel_rfl
@[go_sem] theorem t201_sz : szT Tryz.prog 201 = 8 := by kernel_rfl
@[go_sem] theorem t201_in : (Tryz.prog.info? 201).isSome = true := by kernel_rfl
@[go_sem] theorem t201_un : (Tryz.prog.underlying 201).isSome = true := by kernel_rfl
@[go_sem] theorem t201_ze : zeroT Tryz.prog 201 = some [.int .i64 0, .int .i64 0, .str ⟨#[]⟩, .int .i64 0, .int .i64 0, .int .i64 0, .bool false, .sl none 0] := by kernel_rfl
@[go_sem] theorem t201_by : Tryz.prog.bytesOf 201 = 88 := by kernel_rfl
@[go_sem] theorem t201_fo : fieldsOk Tryz.prog 201 = true := by kernel_rfl
@[go_sem] theorem t208_ag : aggT Tryz.prog 208 = true := by kernel_rfl
@[go_sem] theorem t208_sz : szT Tryz.prog 208 = 3 := by kernel_rfl
@[go_sem] theorem t208_in : (Tryz.prog.info? 208).isSome = true := by kernel_rfl
@[go_sem] theorem t208_un : (Tryz.prog.underlying 208).isSome = true := by kernel_rfl
@[go_sem] theorem t208_ze : zeroT Tryz.prog 208 = some [.sl none 0, .int .i64 0, .bool false] := by kernel_rfl
@[go_sem] theorem t208_by : Tryz.prog.bytesOf 208 = 40 := by kernel_rfl
@[go_sem] theorem t208_fo : fieldsOk Tryz.prog 208 = true := by kernel_rfl
@[go_sem] theorem t234_ag : aggT Tryz.prog 234 = true := by kernel_rfl
@[go_sem] theorem t234_sz : szT Tryz.prog 234 = 3 := by kernel_rfl
@[go_sem] theorem t234_in : (Tryz.prog.info? 234).isSome = true := by kernel_rfl
@[go_sem] theorem t234_un : (Tryz.prog.underlying 234).isSome = true := by kernel_rfl
@[go_sem] theorem t234_ze : zeroT Tryz.prog 234 = some [.sl none 0, .int .i64 0, .bool false] := by kernel_rfl
@[go_sem] theorem t234_by : Tryz.prog.bytesOf 234 = 40 := by kernel_rfl
@[go_sem] theorem t234_fo : fieldsOk Tryz.prog 234 = true := by kernel_rfl
@[go_sem] theorem t244_ag : aggT Tryz.prog 244 = false := by kernel_rfl
@[go_sem] theorem t244_sz : szT Tryz.prog 244 = 1 := by kernel_rfl
@[go_sem] theorem t244_in : (Tryz.prog.info? 244).isSome = true := by kernel_rfl
@[go_sem] theorem t244_un : (Tryz.prog.underlying 244).isSome = true := by kernel_rfl
@[go_sem] theorem t244_ze : zeroT Tryz.prog 244 = some [.int .u64 0] := by kernel_rfl
@[go_sem] theorem t244_by : Tryz.prog.bytesOf 244 = 8 := by kernel_rfl
@[go_sem] theorem t253_ag : aggT Tryz.prog 253 = true := by kernel_rfl
@[go_sem] theorem t253_sz : szT Tryz.prog 253 = 2 := by kernel_rfl
@[go_sem] theorem t253_in : (Tryz.prog.info? 253).isSome = true := by kernel_rfl
@[go_sem] theorem t253_un : (Tryz.prog.underlying 253).isSome = true := by kernel_rfl
@[go_sem] theorem t253_ze : zeroT Tryz.prog 253 = some [.str ⟨#[]⟩, .int .i64 0] := by kernel_rfl
@[go_sem] theorem t253_by : Tryz.prog.bytesOf 253 = 24 := by kernel_rfl
@[go_sem] theorem t253_fo : fieldsOk Tryz.prog 253 = true := by kernel_rfl
@[go_sem] theorem t262_ag : aggT Tryz.prog 262 = false := by kernel_rfl
@[go_sem] theorem t262_sz : szT Tryz.prog 262 = 1 := by kernel_rfl
@[go_sem] theorem t262_in : (Tryz.prog.info? 262).isSome = true := by kernel_rfl
@[go_sem] theorem t262_un : (Tryz.prog.underlying 262).isSome = true := by kernel_rfl
@[go_sem] theorem t262_ze : zeroT Tryz.prog 262 = some [.nili] := by kernel_rfl
@[go_sem] theorem t262_by : Tryz.prog.bytesOf 262 = 16 := by kernel_rfl
@[go_sem] theorem t281_ag : aggT Tryz.prog 281 = true := by kernel_rfl
@[go_sem] theorem t281_sz : szT Tryz.prog 281 = 3 := by kernel_rfl
@[go_sem] theorem t281_in : (Tryz.prog.info? 281).isSome = true := by kernel_rfl
@[go_sem] theorem t281_un : (Tryz.prog.underlying 281).isSome = true := by kernel_rfl
@[go_sem] theorem t281_ze : zeroT Tryz.prog 281 = some [.str ⟨#[]⟩, .str ⟨#[]⟩, .nili] := by kernel_rfl
@[go_sem] theorem t281_by : Tryz.prog.bytesOf 281 = 48 := by kernel_rfl
@[go_sem] theorem t281_fo : fieldsOk Tryz.prog 281 = true := by kernel_rfl
@[go_sem] theorem t288_ag : aggT Tryz.prog 288 = true := by kernel_rfl
@[go_sem] theorem t288_sz : szT Tryz.prog 288 = 1 := by kernel_rfl
@[go_sem] theorem t288_in : (Tryz.prog.info? 288).isSome = true := by kernel_rfl
@[go_sem] theorem t288_un : (Tryz.prog.underlying 288).isSome = true := by kernel_rfl
@[go_sem] theorem t288_ze : zeroT Tryz.prog 288 = some [.str ⟨#[]⟩] := by kernel_rfl
@[go_sem] theorem t288_by : Tryz.prog.bytesOf 288 = 16 := by kernel_rfl
@[go_sem] theorem t288_fo : fieldsOk Tryz.prog 288 = true := by kernel_rfl
@[go_sem] theorem t25_f0 : fieldT Tryz.prog 25 0 = some (0, 1) := by kernel_rfl
@[go_sem] theorem t25_f1 : fieldT Tryz.prog 25 1 = some (1, 1) := by kernel_rfl
@[go_sem] theorem t45_f0 : fieldT Tryz.prog 45 0 = some (0, 1) := by kernel_rfl
@[go_sem] theorem t45_f1 : fieldT Tryz.prog 45 1 = some (1, 1) := by kernel_rfl
@[go_sem] theorem t45_f2 : fieldT Tryz.prog 45 2 = some (2, 1) := by kernel_rfl
@[go_sem] theorem t45_f3 : fieldT Tryz.prog 45 3 = some (3, 1) := by kernel_rfl
@[go_sem] theorem t45_f4 : fieldT Tryz.prog 45 4 = some (4, 1) := by kernel_rfl
@[go_sem] theorem t45_f5 : fieldT Tryz.prog 45 5 = some (5, 1) := by kernel_rfl
@[go_sem] theorem t45_f6 : fieldT Tryz.prog 45 6 = some (6, 1) := by kernel_rfl
@[go_sem] theorem t56_f0 : fieldT Tryz.prog 56 0 = some (0, 1) := by kernel_rfl
@[go_sem] theorem t56_f1 : fieldT Tryz.prog 56 1 = some (1, 1) := by kernel_rfl
@[go_sem] theorem t56_f2 : fieldT Tryz.prog 56 2 = some (2, 1) := by kernel_rfl
@[go_sem] theorem t58_f0 : fieldT Tryz.prog 58 0 = some (0, 1) := by kernel_rfl
@[go_sem] theorem t58_f1 : fieldT Tryz.prog 58 1 = some (1, 1) := by kernel_rfl
@[go_sem] theorem t58_f2 : fieldT Tryz.prog 58 2 = some (2, 3) := by kernel_rfl
@[go_sem] theorem t61_f0 : fieldT Tryz.prog 61 0 = some (0, 1) := by kernel_rfl
@[go_sem] theorem t61_f1 : fieldT Tryz.prog 61 1 = some (1, 1) := by kernel_rfl
@[go_sem] theorem t69_f0 : fieldT Tryz.prog 69 0 = some (0, 1) := by kernel_rfl
@[go_sem] theorem t69_f1 : fieldT Tryz.prog 69 1 = some (1, 1) := by kernel_rfl
@[go_sem] theorem t69_f2 : fieldT Tryz.prog 69 2 = some (2, 1) := by kernel_rfl
@[go_sem] theorem t69_f3 : fieldT Tryz.prog 69 3 = some (3, 1) := by kernel_rfl
@[go_sem] theorem t69_f4 : fieldT Tryz.prog 69 4 = some (4, 3) := by kernel_rfl
@[go_sem] theorem t88_f0 : fieldT Tryz.prog 88 0 = some (0, 1) := by kernel_rfl
@[go_sem] theorem t88_f1 : fieldT Tryz.prog 88 1 = some (1, 1) := by kernel_rfl
@[go_sem] theorem t88_f2 : fieldT Tryz.prog 88 2 = some (2, 5) := by kernel_rfl
@[go_sem] theorem t103_f0 : fieldT Tryz.prog 103 0 = some (0, 1) := by kernel_rfl
@[go_sem] theorem t103_f1 : fieldT Tryz.prog 103 1 = some (1, 1) := by kernel_rfl
@[go_sem] theorem t103_f2 : fieldT Tryz.prog 103 2 = some (2, 1) := by kernel_rfl
@[go_sem] theorem t103_f3 : fieldT Tryz.prog 103 3 = some (3, 1) := by kernel_rfl
@[go_sem] theorem t105_f0 : fieldT Tryz.prog 105 0 = some (0, 7) := by kernel_rfl
@[go_sem] theorem t105_f1 : fieldT Tryz.prog 105 1 = some (7, 1) := by kernel_rfl
@[go_sem] theorem t116_f0 : fieldT Tryz.prog 116 0 = some (0, 1) := by kernel_rfl
@[go_sem] theorem t116_f1 : fieldT Tryz.prog 116 1 = some (1, 1) := by kernel_rfl
@[go_sem] theorem t116_f2 : fieldT Tryz.prog 116 2 = some (2, 1) := by kernel_rfl
@[go_sem] theorem t116_f3 : fieldT Tryz.prog 116 3 = some (3, 1) := by kernel_rfl
@[go_sem] theorem t116_f4 : fieldT Tryz.prog 116 4 = some (4, 1) := by kernel_rfl
@[go_sem] theorem t116_f5 : fieldT Tryz.prog 116 5 = some (5, 1) := by kernel_rfl
@[go_sem] theorem t116_f6 : fieldT Tryz.prog 116 6 = some (6, 1) := by kernel_rfl
@[go_sem] theorem t116_f7 : fieldT Tryz.prog 116 7 = some (7, 1) := by kernel_rfl
@[go_sem] theorem t116_f8 : fieldT Tryz.prog 116 8 = some (8, 1) := by kernel_rfl
@[go_sem] theorem t116_f9 : fieldT Tryz.prog 116 9 = some (9, 1) := by kernel_rfl
@[go_sem] theorem t116_f10 : fieldT Tryz.prog 116 10 = some (10, 1) := by kernel_rfl
@[go_sem] theorem t120_f0 : fieldT Tryz.prog 120 0 = some (0, 5) := by kernel_rfl
@[go_sem] theorem t120_f1 : fieldT Tryz.prog 120 1 = some (5, 1) := by kernel_rfl
@[go_sem] theorem t140_f0 : fieldT Tryz.prog 140 0 = some (0, 1) := by kernel_rfl
@[go_sem] theorem t140_f1 : fieldT Tryz.prog 140 1 = some (1, 1) := by kernel_rfl
@[go_sem] theorem t177_f0 : fieldT Tryz.prog 177 0 = some (0, 1) := by kernel_rfl
@[go_sem] theorem t177_f1 : fieldT Tryz.prog 177 1 = some (1, 1) := by kernel_rfl
@[go_sem] theorem t177_f2 : fieldT Tryz.prog 177 2 = some (2, 1) := by kernel_rfl
@[go_sem] theorem t179_f0 : fieldT Tryz.prog 179 0 = some (0, 1) := by kernel_rfl
@[go_sem] theorem t179_f1 : fieldT Tryz.prog 179 1 = some (1, 3) := by kernel_rfl
@[go_sem] theorem t179_f2 : fieldT Tryz.prog 179 2 = some (4, 1) := by kernel_rfl
@[go_sem] theorem t179_f3 : fieldT Tryz.prog 179 3 = some (5, 1) := by kernel_rfl
@[go_sem] theorem t179_f4 : fieldT Tryz.prog 179 4 = some (6, 1) := by kernel_rfl
@[go_sem] theorem t183_f0 : fieldT Tryz.prog 183 0 = some (0, 1) := by kernel_rfl
@[go_sem] theorem t183_f1 : fieldT Tryz.prog 183 1 = some (1, 1) := by kernel_rfl
@[go_sem] theorem t186_f0 : fieldT Tryz.prog 186 0 = some (0, 1) := by kernel_rfl
@[go_sem] theorem t186_f1 : fieldT Tryz.prog 186 1 = some (1, 1) := by kernel_rfl
@[go_sem] theorem t186_f2 : fieldT Tryz.prog 186 2 = some (2, 1) := by kernel_rfl
@[go_sem] theorem t186_f3 : fieldT Tryz.prog 186 3 = some (3, 1) := by kernel_rfl
@[go_sem] theorem t186_f4 : fieldT Tryz.prog 186 4 = some (4, 1) := by kernel_rfl
@[go_sem] theorem t197_f0 : fieldT Tryz.prog 197 0 = some (0, 1) := by kernel_rfl
@[go_sem] theorem t197_f1 : fieldT Tryz.prog 197 1 = some (1, 1) := by kernel_rfl
@[go_sem] theorem t197_f2 : fieldT Tryz.prog 197 2 = some (2, 1) := by kernel_rfl
@[go_sem] theorem t197_f3 : fieldT Tryz.prog 197 3 = some (3, 1) := by kernel_rfl
@[go_sem] theorem t197_f4 : fieldT Tryz.prog 197 4 = some (4, 1) := by kernel_rfl
@[go_sem] theorem t197_f5 : fieldT Tryz.prog 197 5 = some (5, 1) := by kernel_rfl
@[go_sem] theorem t201_f0 : fieldT Tryz.prog 201 0 = some (0, 7) := by kernel_rfl
@[go_sem] theorem t201_f1 : fieldT Tryz.prog 201 1 = some (7, 1) := by kernel_rfl
@[go_sem] theorem t208_f0 : fieldT Tryz.prog 208 0 = some (0, 1) := by kernel_rfl
@[go_sem] theorem t208_f1 : fieldT Tryz.prog 208 1 = some (1, 1) := by kernel_rfl
@[go_sem] theorem t208_f2 : fieldT Tryz.prog 208 2 = some (2, 1) := by kernel_rfl
@[go_sem] theorem t234_f0 : fieldT Tryz.prog 234 0 = some (0, 1) := by kernel_rfl
@[go_sem] theorem t234_f1 : fieldT Tryz.prog 234 1 = some (1, 1) := by kernel_rfl
@[go_sem] theorem t234_f2 : fieldT Tryz.prog 234 2 = some (2, 1) := by kernel_rfl
@[go_sem] theorem t253_f0 : fieldT Tryz.prog 253 0 = some (0, 1) := by kernel_rfl
@[go_sem] theorem t253_f1 : fieldT Tryz.prog 253 1 = some (1, 1) := by kernel_rfl
@[go_sem] theorem t281_f0 : fieldT Tryz.prog 281 0 = some (0, 1) := by kernel_rfl
@[go_sem] theorem t281_f1 : fieldT Tryz.prog 281 1 = some (1, 1) := by kernel_rfl
@[go_sem] theorem t281_f2 : fieldT Tryz.prog 281 2 = some (2, 1) := by kernel_rfl
@[go_sem] theorem t288_f0 : fieldT Tryz.prog 288 0 = some (0, 1) := by kernel_rfl
@[go_sem] theorem t9_st : strT Tryz.prog 9 = true := by kernel_rfl
@[go_sem] theorem t9_el : elemT Tryz.prog 9 = none := by kernel_rfl
@[go_sem] theorem t9_us : Tryz.prog.underlying 9 = some .string := by kernel_rfl
@[go_sem] theorem t22_el : elemT Tryz.prog 22 = some 3 := by kernel_rfl
@[go_sem] theorem t22_st : strT Tryz.prog 22 = false := by kernel_rfl
@[go_sem] theorem t28_el : elemT Tryz.prog 28 = some 5 := by kernel_rfl
@[go_sem] theorem t28_st : strT Tryz.prog 28 = false := by kernel_rfl
@[go_sem] theorem t39_el : elemT Tryz.prog 39 = some 45 := by kernel_rfl
@[go_sem] theorem t39_st : strT Tryz.prog 39 = false := by kernel_rfl
@[go_sem] theorem t46_el : elemT Tryz.prog 46 = some 69 := by kernel_rfl
@[go_sem] theorem t46_st : strT Tryz.prog 46 = false := by kernel_rfl
@[go_sem] theorem t49_el : elemT Tryz.prog 49 = some 58 := by kernel_rfl
@[go_sem] theorem t49_st : strT Tryz.prog 49 = false := by kernel_rfl
@[go_sem] theorem t52_el : elemT Tryz.prog 52 = some 61 := by kernel_rfl
@[go_sem] theorem t52_st : strT Tryz.prog 52 = false := by kernel_rfl
@[go_sem] theorem t65_el : elemT Tryz.prog 65 = some 29 := by kernel_rfl
@[go_sem] theorem t65_st : strT Tryz.prog 65 = false := by kernel_rfl
@[go_sem] theorem t81_el : elemT Tryz.prog 81 = some 56 := by kernel_rfl
@[go_sem] theorem t81_st : strT Tryz.prog 81 = false := by kernel_rfl
@[go_sem] theorem t89_el : elemT Tryz.prog 89 = some 88 := by kernel_rfl
@[go_sem] theorem t89_st : strT Tryz.prog 89 = false := by kernel_rfl
@[go_sem] theorem t90_el : elemT Tryz.prog 90 = some 197 := by kernel_rfl
@[go_sem] theorem t90_st : strT Tryz.prog 90 = false := by kernel_rfl
@[go_sem] theorem t100_el : elemT Tryz.prog 100 = some 105 := by kernel_rfl
@[go_sem] theorem t100_st : strT Tryz.prog 100 = false := by kernel_rfl
@[go_sem] theorem t113_el : elemT Tryz.prog 113 = some 120 := by kernel_rfl
@[go_sem] theorem t113_st : strT Tryz.prog 113 = false := by kernel_rfl
@[go_sem] theorem t134_el : elemT Tryz.prog 134 = some 183 := by kernel_rfl
@[go_sem] theorem t134_st : strT Tryz.prog 134 = false := by kernel_rfl
@[go_sem] theorem t149_el : elemT Tryz.prog 149 = some 201 := by kernel_rfl
@[go_sem] theorem t149_st : strT Tryz.prog 149 = false := by kernel_rfl
@[go_sem] theorem t155_el : elemT Tryz.prog 155 = some 9 := by kernel_rfl
@[go_sem] theorem t155_st : strT Tryz.prog 155 = false := by kernel_rfl
@[go_sem] theorem t171_el : elemT Tryz.prog 171 = some 81 := by kernel_rfl
@[go_sem] theorem t171_st : strT Tryz.prog 171 = false := by kernel_rfl
@[go_sem] theorem t184_el : elemT Tryz.prog 184 = some 135 := by kernel_rfl
@[go_sem] theorem t184_st : strT Tryz.prog 184 = false := by kernel_rfl
@[go_sem] theorem t202_el : elemT Tryz.prog 202 = some 28 := by kernel_rfl
@[go_sem] theorem t202_st : strT Tryz.prog 202 = false := by kernel_rfl
@[go_sem] theorem t2_un : (Tryz.prog.underlying 2).isSome = true := by kernel_rfl
@[go_sem] theorem t2_ik : intK Tryz.prog 2 = some .i64 := by kernel_rfl
@[go_sem] theorem t3_ik : intK Tryz.prog 3 = some .i64 := by kernel_rfl
@[go_sem] theorem t5_ik : intK Tryz.prog 5 = some .u8 := by kernel_rfl
@[go_sem] theorem t9_ik : intK Tryz.prog 9 = none := by kernel_rfl
@[go_sem] theorem t28_ik : intK Tryz.prog 28 = none := by kernel_rfl
@[go_sem] theorem t125_un : (Tryz.prog.underlying 125).isSome = true := by kernel_rfl
@[go_sem] theorem t125_ik : intK Tryz.prog 125 = some .u64 := by kernel_rfl
@[go_sem] theorem t165_un : (Tryz.prog.underlying 165).isSome = true := by kernel_rfl
@[go_sem] theorem t165_ik : intK Tryz.prog 165 = some .u32 := by kernel_rfl
@[go_sem] theorem t168_ik : intK Tryz.prog 168 = some .u64 := by kernel_rfl
@[go_sem] theorem t244_ik : intK Tryz.prog 244 = some .u64 := by kernel_rfl
@[go_sem] theorem t2_bt : bytesT Tryz.prog 2 = false := by kernel_rfl
@[go_sem] theorem t3_bt : bytesT Tryz.prog 3 = false := by kernel_rfl
@[go_sem] theorem t5_bt : bytesT Tryz.prog 5 = false := by kernel_rfl
@[go_sem] theorem t9_bt : bytesT Tryz.prog 9 = false := by kernel_rfl
@[go_sem] theorem t28_bt : bytesT Tryz.prog 28 = true := by kernel_rfl
@[go_sem] theorem t125_bt : bytesT Tryz.prog 125 = false := by kernel_rfl
@[go_sem] theorem t165_bt : bytesT Tryz.prog 165 = false := by kernel_rfl
@[go_sem] theorem t168_bt : bytesT Tryz.prog 168 = false := by kernel_rfl
@[go_sem] theorem t244_bt : bytesT Tryz.prog 244 = false := by kernel_rfl
@[go_sem] theorem t9_co : conT Tryz.prog 9 = true := by kernel_rfl
@[go_sem] theorem t271_co : conT Tryz.prog 271 = true := by kernel_rfl
@[go_sem] theorem t274_co : conT Tryz.prog 274 = true := by kernel_rfl
@[go_sem] theorem t286_co : conT Tryz.prog 286 = true := by kernel_rfl
@[go_sem] theorem t140_k1 : fieldK Tryz.prog 140 1 = some (1, 1, false) := by kernel_rfl
@[go_sem] theorem t28_kd : kindT Tryz.prog 28 = 3 := by kernel_rfl
@[go_sem] theorem t262_kd : kindT Tryz.prog 262 = 6 := by kernel_rfl
@[go_sem] theorem f2_en : entersB Tryz.prog 2 = true := by kernel_rfl
@[go_sem] theorem f2_rs : Tryz.f2.results.toList = [] := by kernel_rfl
@[go_sem] theorem f2_nt : Tryz.f2.ntmps = 1 := by kernel_rfl
@[go_sem] theorem f3_en : entersB Tryz.prog 3 = true := by kernel_rfl
@[go_sem] theorem f3_rs : Tryz.f3.results.toList = [.tmp 2] := by kernel_rfl
@[go_sem] theorem f3_nt : Tryz.f3.ntmps = 91 := by kernel_rfl
@[go_sem] theorem f4_en : entersB Tryz.prog 4 = true := by kernel_rfl
@[go_sem] theorem f4_rs : Tryz.f4.results.toList = [.tmp 2] := by kernel_rfl
@[go_sem] theorem f4_nt : Tryz.f4.ntmps = 115 := by kernel_rfl
@[go_sem] theorem f5_en : entersB Tryz.prog 5 = true := by kernel_rfl
@[go_sem] theorem f5_rs : Tryz.f5.results.toList = [.tmp 2] := by kernel_rfl
@[go_sem] theorem f5_nt : Tryz.f5.ntmps = 110 := by kernel_rfl
@[go_sem] theorem f6_en : entersB Tryz.prog 6 = true := by kernel_rfl
@[go_sem] theorem f6_rs : Tryz.f6.results.toList = [.tmp 2] := by kernel_rfl
@[go_sem] theorem f6_nt : Tryz.f6.ntmps = 144 := by kernel_rfl
@[go_sem] theorem f7_en : entersB Tryz.prog 7 = true := by kernel_rfl
@[go_sem] theorem f7_rs : Tryz.f7.results.toList = [.tmp 4] := by kernel_rfl
@[go_sem] theorem f7_nt : Tryz.f7.ntmps = 12 := by kernel_rfl
@[go_sem] theorem f8_en : entersB Tryz.prog 8 = true := by kernel_rfl
@[go_sem] theorem f8_rs : Tryz.f8.results.toList = [.tmp 6] := by kernel_rfl
@[go_sem] theorem f8_nt : Tryz.f8.ntmps = 19 := by kernel_rfl
@[go_sem] theorem f9_en : entersB Tryz.prog 9 = true := by kernel_rfl
@[go_sem] theorem f9_rs : Tryz.f9.results.toList = [.tmp 2, .tmp 3] := by kernel_rfl
@[go_sem] theorem f9_nt : Tryz.f9.ntmps = 8 := by kernel_rfl
@[go_sem] theorem f10_en : entersB Tryz.prog 10 = true := by kernel_rfl
@[go_sem] theorem f10_rs : Tryz.f10.results.toList = [.tmp 2] := by kernel_rfl
@[go_sem] theorem f10_nt : Tryz.f10.ntmps = 46 := by kernel_rfl
@[go_sem] theorem f11_en : entersB Tryz.prog 11 = true := by kernel_rfl
@[go_sem] theorem f11_rs : Tryz.f11.results.toList = [.tmp 4, .tmp 5, .tmp 6] := by kernel_rfl
@[go_sem] theorem f11_nt : Tryz.f11.ntmps = 25 := by kernel_rfl
@[go_sem] theorem f12_en : entersB Tryz.prog 12 = true := by kernel_rfl
@[go_sem] theorem f12_rs : Tryz.f12.results.toList = [.tmp 2] := by kernel_rfl
@[go_sem] theorem f12_nt : Tryz.f12.ntmps = 15 := by kernel_rfl
@[go_sem] theorem f13_en : entersB Tryz.prog 13 = true := by kernel_rfl
@[go_sem] theorem f13_rs : Tryz.f13.results.toList = [.tmp 4] := by kernel_rfl
@[go_sem] theorem f13_nt : Tryz.f13.ntmps = 10 := by kernel_rfl
@[go_sem] theorem f14_en : entersB Tryz.prog 14 = true := by kernel_rfl
@[go_sem] theorem f14_rs : Tryz.f14.results.toList = [.tmp 0] := by kernel_rfl
@[go_sem] theorem f14_nt : Tryz.f14.ntmps = 72 := by kernel_rfl
@[go_sem] theorem f15_en : entersB Tryz.prog 15 = true := by kernel_rfl
@[go_sem] theorem f15_rs : Tryz.f15.results.toList = [.tmp 2] := by kernel_rfl
@[go_sem] theorem f15_nt : Tryz.f15.ntmps = 31 := by kernel_rfl
@[go_sem] theorem f16_en : entersB Tryz.prog 16 = true := by kernel_rfl
@[go_sem] theorem f16_rs : Tryz.f16.results.toList = [.tmp 2, .tmp 3] := by kernel_rfl
@[go_sem] theorem f16_nt : Tryz.f16.ntmps = 33 := by kernel_rfl
@[go_sem] theorem f17_en : entersB Tryz.prog 17 = true := by kernel_rfl
@[go_sem] theorem f17_rs : Tryz.f17.results.toList = [.tmp 2, .tmp 3, .tmp 4] := by kernel_rfl
@[go_sem] theorem f17_nt : Tryz.f17.ntmps = 37 := by kernel_rfl
@[go_sem] theorem f18_en : entersB Tryz.prog 18 = true := by kernel_rfl
@[go_sem] theorem f18_rs : Tryz.f18.results.toList = [.tmp 2, .tmp 3, .tmp 4] := by kernel_rfl
@[go_sem] theorem f18_nt : Tryz.f18.ntmps = 49 := by kernel_rfl
@[go_sem] theorem f19_en : entersB Tryz.prog 19 = true := by kernel_rfl
@[go_sem] theorem f19_rs : Tryz.f19.results.toList = [.tmp 4] := by kernel_rfl
@[go_sem] theorem f19_nt : Tryz.f19.ntmps = 18 := by kernel_rfl
@[go_sem] theorem f20_en : entersB Tryz.prog 20 = true := by kernel_rfl
@[go_sem] theorem f20_rs : Tryz.f20.results.toList = [.tmp 4] := by kernel_rfl
@[go_sem] theorem f20_nt : Tryz.f20.ntmps = 74 := by kernel_rfl
@[go_sem] theorem f21_en : entersB Tryz.prog 21 = true := by kernel_rfl
@[go_sem] theorem f21_rs : Tryz.f21.results.toList = [.tmp 2] := by kernel_rfl
@[go_sem] theorem f21_nt : Tryz.f21.ntmps = 63 := by kernel_rfl
@[go_sem] theorem f22_en : entersB Tryz.prog 22 = true := by kernel_rfl
@[go_sem] theorem f22_rs : Tryz.f22.results.toList = [.tmp 6, .tmp 7] := by kernel_rfl
@[go_sem] theorem f22_nt : Tryz.f22.ntmps = 38 := by kernel_rfl
@[go_sem] theorem f23_en : entersB Tryz.prog 23 = true := by kernel_rfl
@[go_sem] theorem f23_rs : Tryz.f23.results.toList = [.tmp 6, .tmp 7] := by kernel_rfl
@[go_sem] theorem f23_nt : Tryz.f23.ntmps = 24 := by kernel_rfl
@[go_sem] theorem f24_en : entersB Tryz.prog 24 = true := by kernel_rfl
@[go_sem] theorem f24_rs : Tryz.f24.results.toList = [.tmp 4] := by kernel_rfl
@[go_sem] theorem f24_nt : Tryz.f24.ntmps = 9 := by kernel_rfl
@[go_sem] theorem f25_en : entersB Tryz.prog 25 = true := by kernel_rfl
@[go_sem] theorem f25_rs : Tryz.f25.results.toList = [.tmp 3] := by kernel_rfl
@[go_sem] theorem f25_nt : Tryz.f25.ntmps = 16 := by kernel_rfl
@[go_sem] theorem f26_en : entersB Tryz.prog 26 = true := by kernel_rfl
@[go_sem] theorem f26_rs : Tryz.f26.results.toList = [.tmp 2, .tmp 3] := by kernel_rfl
@[go_sem] theorem f26_nt : Tryz.f26.ntmps = 20 := by kernel_rfl
@[go_sem] theorem f27_en : entersB Tryz.prog 27 = true := by kernel_rfl
@[go_sem] theorem f27_rs : Tryz.f27.results.toList = [.tmp 6, .tmp 7] := by kernel_rfl
@[go_sem] theorem f27_nt : Tryz.f27.ntmps = 23 := by kernel_rfl
@[go_sem] theorem f28_en : entersB Tryz.prog 28 = true := by kernel_rfl
@[go_sem] theorem f28_rs : Tryz.f28.results.toList = [.tmp 6, .tmp 7, .tmp 8] := by kernel_rfl
@[go_sem] theorem f28_nt : Tryz.f28.ntmps = 30 := by kernel_rfl
@[go_sem] theorem f29_en : entersB Tryz.prog 29 = true := by kernel_rfl
@[go_sem] theorem f29_rs : Tryz.f29.results.toList = [.tmp 4] := by kernel_rfl
@[go_sem] theorem f29_nt : Tryz.f29.ntmps = 9 := by kernel_rfl
@[go_sem] theorem f30_en : entersB Tryz.prog 30 = true := by kernel_rfl
@[go_sem] theorem f30_rs : Tryz.f30.results.toList = [.tmp 4] := by kernel_rfl
@[go_sem] theorem f30_nt : Tryz.f30.ntmps = 9 := by kernel_rfl
@[go_sem] theorem f31_en : entersB Tryz.prog 31 = true := by kernel_rfl
@[go_sem] theorem f31_rs : Tryz.f31.results.toList = [.tmp 3] := by kernel_rfl
@[go_sem] theorem f31_nt : Tryz.f31.ntmps = 13 := by kernel_rfl
@[go_sem] theorem f32_en : entersB Tryz.prog 32 = true := by kernel_rfl
@[go_sem] theorem f32_rs : Tryz.f32.results.toList = [.tmp 4] := by kernel_rfl
@[go_sem] theorem f32_nt : Tryz.f32.ntmps = 64 := by kernel_rfl
@[go_sem] theorem f33_en : entersB Tryz.prog 33 = true := by kernel_rfl
@[go_sem] theorem f33_rs : Tryz.f33.results.toList = [.tmp 6] := by kernel_rfl
@[go_sem] theorem f33_nt : Tryz.f33.ntmps = 15 := by kernel_rfl
@[go_sem] theorem f34_en : entersB Tryz.prog 34 = true := by kernel_rfl
@[go_sem] theorem f34_rs : Tryz.f34.results.toList = [.tmp 2] := by kernel_rfl
@[go_sem] theorem f34_nt : Tryz.f34.ntmps = 28 := by kernel_rfl
@[go_sem] theorem f35_en : entersB Tryz.prog 35 = true := by kernel_rfl
@[go_sem] theorem f35_rs : Tryz.f35.results.toList = [.tmp 2, .tmp 3] := by kernel_rfl
@[go_sem] theorem f35_nt : Tryz.f35.ntmps = 34 := by kernel_rfl
@[go_sem] theorem f36_en : entersB Tryz.prog 36 = true := by kernel_rfl
@[go_sem] theorem f36_rs : Tryz.f36.results.toList = [.tmp 2] := by kernel_rfl
@[go_sem] theorem f36_nt : Tryz.f36.ntmps = 6 := by kernel_rfl
@[go_sem] theorem f37_en : entersB Tryz.prog 37 = true := by kernel_rfl
@[go_sem] theorem f37_rs : Tryz.f37.results.toList = [.tmp 4] := by kernel_rfl
@[go_sem] theorem f37_nt : Tryz.f37.ntmps = 9 := by kernel_rfl
@[go_sem] theorem f38_en : entersB Tryz.prog 38 = true := by kernel_rfl
@[go_sem] theorem f38_rs : Tryz.f38.results.toList = [.tmp 4] := by kernel_rfl
@[go_sem] theorem f38_nt : Tryz.f38.ntmps = 48 := by kernel_rfl
@[go_sem] theorem f39_en : entersB Tryz.prog 39 = true := by kernel_rfl
@[go_sem] theorem f39_rs : Tryz.f39.results.toList = [.tmp 4, .tmp 5, .tmp 6] := by kernel_rfl
@[go_sem] theorem f39_nt : Tryz.f39.ntmps = 59 := by kernel_rfl
@[go_sem] theorem f40_en : entersB Tryz.prog 40 = true := by kernel_rfl
@[go_sem] theorem f40_rs : Tryz.f40.results.toList = [.tmp 4, .tmp 5] := by kernel_rfl
@[go_sem] theorem f40_nt : Tryz.f40.ntmps = 29 := by kernel_rfl
@[go_sem] theorem f41_en : entersB Tryz.prog 41 = true := by kernel_rfl
@[go_sem] theorem f41_rs : Tryz.f41.results.toList = [.cell 6 56, .tmp 7] := by kernel_rfl
@[go_sem] theorem f41_nt : Tryz.f41.ntmps = 39 := by kernel_rfl
@[go_sem] theorem f42_en : entersB Tryz.prog 42 = true := by kernel_rfl
@[go_sem] theorem f42_rs : Tryz.f42.results.toList = [.tmp 4, .tmp 5] := by kernel_rfl
@[go_sem] theorem f42_nt : Tryz.f42.ntmps = 29 := by kernel_rfl
@[go_sem] theorem f43_en : entersB Tryz.prog 43 = true := by kernel_rfl
@[go_sem] theorem f43_rs : Tryz.f43.results.toList = [.tmp 4, .tmp 5] := by kernel_rfl
@[go_sem] theorem f43_nt : Tryz.f43.ntmps = 18 := by kernel_rfl
@[go_sem] theorem f44_en : entersB Tryz.prog 44 = true := by kernel_rfl
@[go_sem] theorem f44_rs : Tryz.f44.results.toList = [.tmp 4] := by kernel_rfl
@[go_sem] theorem f44_nt : Tryz.f44.ntmps = 39 := by kernel_rfl
@[go_sem] theorem f45_en : entersB Tryz.prog 45 = true := by kernel_rfl
@[go_sem] theorem f45_rs : Tryz.f45.results.toList = [.tmp 2] := by kernel_rfl
@[go_sem] theorem f45_nt : Tryz.f45.ntmps = 27 := by kernel_rfl
@[go_sem] theorem f46_en : entersB Tryz.prog 46 = true := by kernel_rfl
@[go_sem] theorem f46_rs : Tryz.f46.results.toList = [.tmp 6, .tmp 7] := by kernel_rfl
@[go_sem] theorem f46_nt : Tryz.f46.ntmps = 69 := by kernel_rfl
@[go_sem] theorem f47_en : entersB Tryz.prog 47 = true := by kernel_rfl
@[go_sem] theorem f47_rs : Tryz.f47.results.toList = [.tmp 4] := by kernel_rfl
@[go_sem] theorem f47_nt : Tryz.f47.ntmps = 12 := by kernel_rfl
@[go_sem] theorem f48_en : entersB Tryz.prog 48 = true := by kernel_rfl
@[go_sem] theorem f48_rs : Tryz.f48.results.toList = [.tmp 2, .tmp 3] := by kernel_rfl
@[go_sem] theorem f48_nt : Tryz.f48.ntmps = 24 := by kernel_rfl
@[go_sem] theorem f49_en : entersB Tryz.prog 49 = true := by kernel_rfl
@[go_sem] theorem f49_rs : Tryz.f49.results.toList = [.tmp 2] := by kernel_rfl
@[go_sem] theorem f49_nt : Tryz.f49.ntmps = 7 := by kernel_rfl
@[go_sem] theorem f50_en : entersB Tryz.prog 50 = true := by kernel_rfl
@[go_sem] theorem f50_rs : Tryz.f50.results.toList = [.tmp 2] := by kernel_rfl
@[go_sem] theorem f50_nt : Tryz.f50.ntmps = 78 := by kernel_rfl
@[go_sem] theorem f51_en : entersB Tryz.prog 51 = true := by kernel_rfl
@[go_sem] theorem f51_rs : Tryz.f51.results.toList = [.tmp 2] := by kernel_rfl
@[go_sem] theorem f51_nt : Tryz.f51.ntmps = 8 := by kernel_rfl
@[go_sem] theorem f52_en : entersB Tryz.prog 52 = true := by kernel_rfl
@[go_sem] theorem f52_rs : Tryz.f52.results.toList = [.tmp 6] := by kernel_rfl
@[go_sem] theorem f52_nt : Tryz.f52.ntmps = 22 := by kernel_rfl
@[go_sem] theorem f53_en : entersB Tryz.prog 53 = true := by kernel_rfl
@[go_sem] theorem f53_rs : Tryz.f53.results.toList = [.cell 2 56] := by kernel_rfl
@[go_sem] theorem f53_nt : Tryz.f53.ntmps = 13 := by kernel_rfl
@[go_sem] theorem f54_en : entersB Tryz.prog 54 = true := by kernel_rfl
@[go_sem] theorem f54_rs : Tryz.f54.results.toList = [.tmp 2] := by kernel_rfl
@[go_sem] theorem f54_nt : Tryz.f54.ntmps = 15 := by kernel_rfl
@[go_sem] theorem f55_en : entersB Tryz.prog 55 = true := by kernel_rfl
@[go_sem] theorem f55_rs : Tryz.f55.results.toList = [.tmp 2] := by kernel_rfl
@[go_sem] theorem f55_nt : Tryz.f55.ntmps = 27 := by kernel_rfl
@[go_sem] theorem f56_en : entersB Tryz.prog 56 = true := by kernel_rfl
@[go_sem] theorem f56_rs : Tryz.f56.results.toList = [.tmp 6] := by kernel_rfl
@[go_sem] theorem f56_nt : Tryz.f56.ntmps = 15 := by kernel_rfl
@[go_sem] theorem f57_en : entersB Tryz.prog 57 = true := by kernel_rfl
@[go_sem] theorem f57_rs : Tryz.f57.results.toList = [.tmp 6] := by kernel_rfl
@[go_sem] theorem f57_nt : Tryz.f57.ntmps = 15 := by kernel_rfl
@[go_sem] theorem f58_en : entersB Tryz.prog 58 = true := by kernel_rfl
@[go_sem] theorem f58_rs : Tryz.f58.results.toList = [.tmp 6] := by kernel_rfl
@[go_sem] theorem f58_nt : Tryz.f58.ntmps = 85 := by kernel_rfl
@[go_sem] theorem f59_en : entersB Tryz.prog 59 = true := by kernel_rfl
@[go_sem] theorem f59_rs : Tryz.f59.results.toList = [.tmp 2] := by kernel_rfl
@[go_sem] theorem f59_nt : Tryz.f59.ntmps = 46 := by kernel_rfl
@[go_sem] theorem f60_en : entersB Tryz.prog 60 = true := by kernel_rfl
@[go_sem] theorem f60_rs : Tryz.f60.results.toList = [.tmp 4] := by kernel_rfl
@[go_sem] theorem f60_nt : Tryz.f60.ntmps = 19 := by kernel_rfl
@[go_sem] theorem f61_en : entersB Tryz.prog 61 = true := by kernel_rfl
@[go_sem] theorem f61_rs : Tryz.f61.results.toList = [.tmp 2] := by kernel_rfl
@[go_sem] theorem f61_nt : Tryz.f61.ntmps = 21 := by kernel_rfl
@[go_sem] theorem f62_en : entersB Tryz.prog 62 = true := by kernel_rfl
@[go_sem] theorem f62_rs : Tryz.f62.results.toList = [.tmp 4] := by kernel_rfl
@[go_sem] theorem f62_nt : Tryz.f62.ntmps = 19 := by kernel_rfl
@[go_sem] theorem f63_en : entersB Tryz.prog 63 = true := by kernel_rfl
@[go_sem] theorem f63_rs : Tryz.f63.results.toList = [.tmp 4] := by kernel_rfl
@[go_sem] theorem f63_nt : Tryz.f63.ntmps = 19 := by kernel_rfl
@[go_sem] theorem f64_en : entersB Tryz.prog 64 = true := by kernel_rfl
@[go_sem] theorem f64_rs : Tryz.f64.results.toList = [.tmp 4] := by kernel_rfl
@[go_sem] theorem f64_nt : Tryz.f64.ntmps = 16 := by kernel_rfl
@[go_sem] theorem f65_en : entersB Tryz.prog 65 = true := by kernel_rfl
@[go_sem] theorem f65_rs : Tryz.f65.results.toList = [.tmp 4, .tmp 5] := by kernel_rfl
@[go_sem] theorem f65_nt : Tryz.f65.ntmps = 30 := by kernel_rfl
@[go_sem] theorem f66_en : entersB Tryz.prog 66 = true := by kernel_rfl
@[go_sem] theorem f66_rs : Tryz.f66.results.toList = [.tmp 2] := by kernel_rfl
@[go_sem] theorem f66_nt : Tryz.f66.ntmps = 15 := by kernel_rfl
@[go_sem] theorem f67_en : entersB Tryz.prog 67 = true := by kernel_rfl
@[go_sem] theorem f67_rs : Tryz.f67.results.toList = [.tmp 2] := by kernel_rfl
@[go_sem] theorem f67_nt : Tryz.f67.ntmps = 35 := by kernel_rfl
@[go_sem] theorem f68_en : entersB Tryz.prog 68 = true := by kernel_rfl
@[go_sem] theorem f68_rs : Tryz.f68.results.toList = [.tmp 2] := by kernel_rfl
@[go_sem] theorem f68_nt : Tryz.f68.ntmps = 36 := by kernel_rfl
@[go_sem] theorem f69_en : entersB Tryz.prog 69 = true := by kernel_rfl
@[go_sem] theorem f69_rs : Tryz.f69.results.toList = [] := by kernel_rfl
@[go_sem] theorem f69_nt : Tryz.f69.ntmps = 14 := by kernel_rfl
@[go_sem] theorem f70_en : entersB Tryz.prog 70 = true := by kernel_rfl
@[go_sem] theorem f70_rs : Tryz.f70.results.toList = [.tmp 4] := by kernel_rfl
@[go_sem] theorem f70_nt : Tryz.f70.ntmps = 22 := by kernel_rfl
@[go_sem] theorem f71_en : entersB Tryz.prog 71 = true := by kernel_rfl
@[go_sem] theorem f71_rs : Tryz.f71.results.toList = [.tmp 4] := by kernel_rfl
@[go_sem] theorem f71_nt : Tryz.f71.ntmps = 66 := by kernel_rfl
@[go_sem] theorem f72_en : entersB Tryz.prog 72 = true := by kernel_rfl
@[go_sem] theorem f72_rs : Tryz.f72.results.toList = [.tmp 4] := by kernel_rfl
@[go_sem] theorem f72_nt : Tryz.f72.ntmps = 10 := by kernel_rfl
@[go_sem] theorem f73_en : entersB Tryz.prog 73 = true := by kernel_rfl
@[go_sem] theorem f73_rs : Tryz.f73.results.toList = [.tmp 2, .tmp 3, .tmp 4] := by kernel_rfl
@[go_sem] theorem f73_nt : Tryz.f73.ntmps = 56 := by kernel_rfl
@[go_sem] theorem f74_en : entersB Tryz.prog 74 = true := by kernel_rfl
@[go_sem] theorem f74_rs : Tryz.f74.results.toList = [.tmp 2] := by kernel_rfl
@[go_sem] theorem f74_nt : Tryz.f74.ntmps = 42 := by kernel_rfl
@[go_sem] theorem f75_en : entersB Tryz.prog 75 = true := by kernel_rfl
@[go_sem] theorem f75_rs : Tryz.f75.results.toList = [.tmp 2] := by kernel_rfl
@[go_sem] theorem f75_nt : Tryz.f75.ntmps = 6 := by kernel_rfl
@[go_sem] theorem f76_en : entersB Tryz.prog 76 = true := by kernel_rfl
@[go_sem] theorem f76_rs : Tryz.f76.results.toList = [.cell 6 140] := by kernel_rfl
@[go_sem] theorem f76_nt : Tryz.f76.ntmps = 107 := by kernel_rfl
@[go_sem] theorem f77_en : entersB Tryz.prog 77 = true := by kernel_rfl
@[go_sem] theorem f77_rs : Tryz.f77.results.toList = [.tmp 2] := by kernel_rfl
@[go_sem] theorem f77_nt : Tryz.f77.ntmps = 4 := by kernel_rfl
@[go_sem] theorem f78_en : entersB Tryz.prog 78 = true := by kernel_rfl
@[go_sem] theorem f78_rs : Tryz.f78.results.toList = [.cell 4 56] := by kernel_rfl
@[go_sem] theorem f78_nt : Tryz.f78.ntmps = 16 := by kernel_rfl
@[go_sem] theorem f79_en : entersB Tryz.prog 79 = true := by kernel_rfl
@[go_sem] theorem f79_rs : Tryz.f79.results.toList = [.tmp 4] := by kernel_rfl
@[go_sem] theorem f79_nt : Tryz.f79.ntmps = 16 := by kernel_rfl
@[go_sem] theorem f80_en : entersB Tryz.prog 80 = true := by kernel_rfl
@[go_sem] theorem f80_rs : Tryz.f80.results.toList = [.tmp 4, .tmp 5] := by kernel_rfl
@[go_sem] theorem f80_nt : Tryz.f80.ntmps = 33 := by kernel_rfl
@[go_sem] theorem f81_en : entersB Tryz.prog 81 = true := by kernel_rfl
@[go_sem] theorem f81_rs : Tryz.f81.results.toList = [.tmp 2] := by kernel_rfl
@[go_sem] theorem f81_nt : Tryz.f81.ntmps = 11 := by kernel_rfl
@[go_sem] theorem f82_en : entersB Tryz.prog 82 = true := by kernel_rfl
@[go_sem] theorem f82_rs : Tryz.f82.results.toList = [.tmp 4] := by kernel_rfl
@[go_sem] theorem f82_nt : Tryz.f82.ntmps = 39 := by kernel_rfl
@[go_sem] theorem f83_en : entersB Tryz.prog 83 = true := by kernel_rfl
@[go_sem] theorem f83_rs : Tryz.f83.results.toList = [.tmp 2, .tmp 3, .tmp 4] := by kernel_rfl
@[go_sem] theorem f83_nt : Tryz.f83.ntmps = 49 := by kernel_rfl
@[go_sem] theorem f84_en : entersB Tryz.prog 84 = true := by kernel_rfl
@[go_sem] theorem f84_rs : Tryz.f84.results.toList = [.tmp 2] := by kernel_rfl
@[go_sem] theorem f84_nt : Tryz.f84.ntmps = 35 := by kernel_rfl
@[go_sem] theorem f85_en : entersB Tryz.prog 85 = true := by kernel_rfl
@[go_sem] theorem f85_rs : Tryz.f85.results.toList = [.tmp 4] := by kernel_rfl
@[go_sem] theorem f85_nt : Tryz.f85.ntmps = 30 := by kernel_rfl
@[go_sem] theorem f86_en : entersB Tryz.prog 86 = true := by kernel_rfl
@[go_sem] theorem f86_rs : Tryz.f86.results.toList = [.tmp 2] := by kernel_rfl
@[go_sem] theorem f86_nt : Tryz.f86.ntmps = 36 := by kernel_rfl
@[go_sem] theorem f87_en : entersB Tryz.prog 87 = true := by kernel_rfl
@[go_sem] theorem f87_rs : Tryz.f87.results.toList = [.tmp 6] := by kernel_rfl
@[go_sem] theorem f87_nt : Tryz.f87.ntmps = 19 := by kernel_rfl
@[go_sem] theorem f88_en : entersB Tryz.prog 88 = true := by kernel_rfl
@[go_sem] theorem f88_rs : Tryz.f88.results.toList = [.cell 4 45, .tmp 5, .tmp 6] := by kernel_rfl
@[go_sem] theorem f88_nt : Tryz.f88.ntmps = 123 := by kernel_rfl
@[go_sem] theorem f89_en : entersB Tryz.prog 89 = true := by kernel_rfl
@[go_sem] theorem f89_rs : Tryz.f89.results.toList = [.tmp 4] := by kernel_rfl
@[go_sem] theorem f89_nt : Tryz.f89.ntmps = 18 := by kernel_rfl
@[go_sem] theorem f90_en : entersB Tryz.prog 90 = true := by kernel_rfl
@[go_sem] theorem f90_rs : Tryz.f90.results.toList = [.tmp 2] := by kernel_rfl
@[go_sem] theorem f90_nt : Tryz.f90.ntmps = 5 := by kernel_rfl
@[go_sem] theorem f91_en : entersB Tryz.prog 91 = true := by kernel_rfl
@[go_sem] theorem f91_rs : Tryz.f91.results.toList = [] := by kernel_rfl
@[go_sem] theorem f91_nt : Tryz.f91.ntmps = 99 := by kernel_rfl
@[go_sem] theorem f92_en : entersB Tryz.prog 92 = true := by kernel_rfl
@[go_sem] theorem f92_rs : Tryz.f92.results.toList = [] := by kernel_rfl
@[go_sem] theorem f92_nt : Tryz.f92.ntmps = 66 := by kernel_rfl
@[go_sem] theorem f93_en : entersB Tryz.prog 93 = true := by kernel_rfl
@[go_sem] theorem f93_rs : Tryz.f93.results.toList = [.tmp 4] := by kernel_rfl
@[go_sem] theorem f93_nt : Tryz.f93.ntmps = 37 := by kernel_rfl
@[go_sem] theorem f94_en : entersB Tryz.prog 94 = true := by kernel_rfl
@[go_sem] theorem f94_rs : Tryz.f94.results.toList = [] := by kernel_rfl
@[go_sem] theorem f94_nt : Tryz.f94.ntmps = 11 := by kernel_rfl
@[go_sem] theorem f95_en : entersB Tryz.prog 95 = true := by kernel_rfl
@[go_sem] theorem f95_rs : Tryz.f95.results.toList = [.tmp 2] := by kernel_rfl
@[go_sem] theorem f95_nt : Tryz.f95.ntmps = 42 := by kernel_rfl
@[go_sem] theorem f96_en : entersB Tryz.prog 96 = true := by kernel_rfl
@[go_sem] theorem f96_rs : Tryz.f96.results.toList = [.tmp 4, .tmp 5] := by kernel_rfl
@[go_sem] theorem f96_nt : Tryz.f96.ntmps = 17 := by kernel_rfl
@[go_sem] theorem f97_en : entersB Tryz.prog 97 = true := by kernel_rfl
@[go_sem] theorem f97_rs : Tryz.f97.results.toList = [.tmp 4, .tmp 5] := by kernel_rfl
@[go_sem] theorem f97_nt : Tryz.f97.ntmps = 51 := by kernel_rfl
@[go_sem] theorem f98_en : entersB Tryz.prog 98 = true := by kernel_rfl
@[go_sem] theorem f98_rs : Tryz.f98.results.toList = [.tmp 2] := by kernel_rfl
@[go_sem] theorem f98_nt : Tryz.f98.ntmps = 25 := by kernel_rfl
@[go_sem] theorem f99_en : entersB Tryz.prog 99 = true := by kernel_rfl
@[go_sem] theorem f99_rs : Tryz.f99.results.toList = [.tmp 4] := by kernel_rfl
@[go_sem] theorem f99_nt : Tryz.f99.ntmps = 27 := by kernel_rfl
@[go_sem] theorem f100_en : entersB Tryz.prog 100 = true := by kernel_rfl
@[go_sem] theorem f100_rs : Tryz.f100.results.toList = [] := by kernel_rfl
@[go_sem] theorem f100_nt : Tryz.f100.ntmps = 148 := by kernel_rfl
@[go_sem] theorem f101_en : entersB Tryz.prog 101 = true := by kernel_rfl
@[go_sem] theorem f101_rs : Tryz.f101.results.toList = [.tmp 2] := by kernel_rfl
@[go_sem] theorem f101_nt : Tryz.f101.ntmps = 8 := by kernel_rfl
@[go_sem] theorem f102_en : entersB Tryz.prog 102 = true := by kernel_rfl
@[go_sem] theorem f102_rs : Tryz.f102.results.toList = [.tmp 2] := by kernel_rfl
@[go_sem] theorem f102_nt : Tryz.f102.ntmps = 18 := by kernel_rfl
@[go_sem] theorem f103_en : entersB Tryz.prog 103 = true := by kernel_rfl
@[go_sem] theorem f103_rs : Tryz.f103.results.toList = [.tmp 4] := by kernel_rfl
@[go_sem] theorem f103_nt : Tryz.f103.ntmps = 20 := by kernel_rfl
@[go_sem] theorem f104_en : entersB Tryz.prog 104 = true := by kernel_rfl
@[go_sem] theorem f104_rs : Tryz.f104.results.toList = [.cell 4 177] := by kernel_rfl
@[go_sem] theorem f104_nt : Tryz.f104.ntmps = 127 := by kernel_rfl
@[go_sem] theorem f105_en : entersB Tryz.prog 105 = true := by kernel_rfl
@[go_sem] theorem f105_rs : Tryz.f105.results.toList = [.tmp 2] := by kernel_rfl
@[go_sem] theorem f105_nt : Tryz.f105.ntmps = 7 := by kernel_rfl
@[go_sem] theorem f106_en : entersB Tryz.prog 106 = true := by kernel_rfl
@[go_sem] theorem f106_rs : Tryz.f106.results.toList = [.tmp 2] := by kernel_rfl
@[go_sem] theorem f106_nt : Tryz.f106.ntmps = 18 := by kernel_rfl
@[go_sem] theorem f107_en : entersB Tryz.prog 107 = true := by kernel_rfl
@[go_sem] theorem f107_rs : Tryz.f107.results.toList = [.tmp 2] := by kernel_rfl
@[go_sem] theorem f107_nt : Tryz.f107.ntmps = 54 := by kernel_rfl
@[go_sem] theorem f108_en : entersB Tryz.prog 108 = true := by kernel_rfl
@[go_sem] theorem f108_rs : Tryz.f108.results.toList = [.cell 5 140] := by kernel_rfl
@[go_sem] theorem f108_nt : Tryz.f108.ntmps = 16 := by kernel_rfl
@[go_sem] theorem f109_en : entersB Tryz.prog 109 = true := by kernel_rfl
@[go_sem] theorem f109_rs : Tryz.f109.results.toList = [.cell 0 140] := by kernel_rfl
@[go_sem] theorem f109_nt : Tryz.f109.ntmps = 2 := by kernel_rfl
@[go_sem] theorem f110_en : entersB Tryz.prog 110 = true := by kernel_rfl
@[go_sem] theorem f110_rs : Tryz.f110.results.toList = [.cell 6 140] := by kernel_rfl
@[go_sem] theorem f110_nt : Tryz.f110.ntmps = 20 := by kernel_rfl
@[go_sem] theorem f111_en : entersB Tryz.prog 111 = true := by kernel_rfl
@[go_sem] theorem f111_rs : Tryz.f111.results.toList = [.cell 4 140] := by kernel_rfl
@[go_sem] theorem f111_nt : Tryz.f111.ntmps = 10 := by kernel_rfl
@[go_sem] theorem f112_en : entersB Tryz.prog 112 = true := by kernel_rfl
@[go_sem] theorem f112_rs : Tryz.f112.results.toList = [.cell 6 140] := by kernel_rfl
@[go_sem] theorem f112_nt : Tryz.f112.ntmps = 88 := by kernel_rfl
@[go_sem] theorem f113_en : entersB Tryz.prog 113 = true := by kernel_rfl
@[go_sem] theorem f113_rs : Tryz.f113.results.toList = [.cell 5 140] := by kernel_rfl
@[go_sem] theorem f113_nt : Tryz.f113.ntmps = 36 := by kernel_rfl
@[go_sem] theorem f114_en : entersB Tryz.prog 114 = true := by kernel_rfl
@[go_sem] theorem f114_rs : Tryz.f114.results.toList = [.tmp 4] := by kernel_rfl
@[go_sem] theorem f114_nt : Tryz.f114.ntmps = 20 := by kernel_rfl
@[go_sem] theorem f115_en : entersB Tryz.prog 115 = true := by kernel_rfl
@[go_sem] theorem f115_rs : Tryz.f115.results.toList = [.tmp 6, .tmp 7] := by kernel_rfl
@[go_sem] theorem f115_nt : Tryz.f115.ntmps = 49 := by kernel_rfl
@[go_sem] theorem f116_en : entersB Tryz.prog 116 = true := by kernel_rfl
@[go_sem] theorem f116_rs : Tryz.f116.results.toList = [.tmp 4] := by kernel_rfl
@[go_sem] theorem f116_nt : Tryz.f116.ntmps = 9 := by kernel_rfl
@[go_sem] theorem f117_en : entersB Tryz.prog 117 = true := by kernel_rfl
@[go_sem] theorem f117_rs : Tryz.f117.results.toList = [.tmp 2] := by kernel_rfl
@[go_sem] theorem f117_nt : Tryz.f117.ntmps = 40 := by kernel_rfl
@[go_sem] theorem f118_en : entersB Tryz.prog 118 = true := by kernel_rfl
@[go_sem] theorem f118_rs : Tryz.f118.results.toList = [.tmp 4] := by kernel_rfl
@[go_sem] theorem f118_nt : Tryz.f118.ntmps = 35 := by kernel_rfl
@[go_sem] theorem f119_en : entersB Tryz.prog 119 = true := by kernel_rfl
@[go_sem] theorem f119_rs : Tryz.f119.results.toList = [.cell 4 45, .tmp 5, .tmp 6] := by kernel_rfl
@[go_sem] theorem f119_nt : Tryz.f119.ntmps = 152 := by kernel_rfl
@[go_sem] theorem f120_en : entersB Tryz.prog 120 = true := by kernel_rfl
@[go_sem] theorem f120_rs : Tryz.f120.results.toList = [.tmp 4] := by kernel_rfl
@[go_sem] theorem f120_nt : Tryz.f120.ntmps = 16 := by kernel_rfl
@[go_sem] theorem f121_en : entersB Tryz.prog 121 = true := by kernel_rfl
@[go_sem] theorem f121_rs : Tryz.f121.results.toList = [.tmp 4] := by kernel_rfl
@[go_sem] theorem f121_nt : Tryz.f121.ntmps = 27 := by kernel_rfl
@[go_sem] theorem f122_en : entersB Tryz.prog 122 = true := by kernel_rfl
@[go_sem] theorem f122_rs : Tryz.f122.results.toList = [.tmp 4] := by kernel_rfl
@[go_sem] theorem f122_nt : Tryz.f122.ntmps = 9 := by kernel_rfl
@[go_sem] theorem f123_en : entersB Tryz.prog 123 = true := by kernel_rfl
@[go_sem] theorem f123_rs : Tryz.f123.results.toList = [.tmp 6] := by kernel_rfl
@[go_sem] theorem f123_nt : Tryz.f123.ntmps = 67 := by kernel_rfl
@[go_sem] theorem f124_en : entersB Tryz.prog 124 = true := by kernel_rfl
@[go_sem] theorem f124_rs : Tryz.f124.results.toList = [.tmp 4] := by kernel_rfl
@[go_sem] theorem f124_nt : Tryz.f124.ntmps = 49 := by kernel_rfl
@[go_sem] theorem f125_en : entersB Tryz.prog 125 = true := by kernel_rfl
@[go_sem] theorem f125_rs : Tryz.f125.results.toList = [.tmp 6] := by kernel_rfl
@[go_sem] theorem f125_nt : Tryz.f125.ntmps = 18 := by kernel_rfl
@[go_sem] theorem f126_en : entersB Tryz.prog 126 = true := by kernel_rfl
@[go_sem] theorem f126_rs : Tryz.f126.results.toList = [.tmp 4] := by kernel_rfl
@[go_sem] theorem f126_nt : Tryz.f126.ntmps = 42 := by kernel_rfl
@[go_sem] theorem f127_en : entersB Tryz.prog 127 = true := by kernel_rfl
@[go_sem] theorem f127_rs : Tryz.f127.results.toList = [.tmp 2] := by kernel_rfl
@[go_sem] theorem f127_nt : Tryz.f127.ntmps = 21 := by kernel_rfl
@[go_sem] theorem f128_en : entersB Tryz.prog 128 = true := by kernel_rfl
@[go_sem] theorem f128_rs : Tryz.f128.results.toList = [.tmp 4] := by kernel_rfl
@[go_sem] theorem f128_nt : Tryz.f128.ntmps = 8 := by kernel_rfl
@[go_sem] theorem f129_en : entersB Tryz.prog 129 = true := by kernel_rfl
@[go_sem] theorem f129_rs : Tryz.f129.results.toList = [] := by kernel_rfl
@[go_sem] theorem f129_nt : Tryz.f129.ntmps = 33 := by kernel_rfl
@[go_sem] theorem f130_en : entersB Tryz.prog 130 = true := by kernel_rfl
@[go_sem] theorem f130_rs : Tryz.f130.results.toList = [.tmp 4] := by kernel_rfl
@[go_sem] theorem f130_nt : Tryz.f130.ntmps = 42 := by kernel_rfl
@[go_sem] theorem f131_en : entersB Tryz.prog 131 = true := by kernel_rfl
@[go_sem] theorem f131_rs : Tryz.f131.results.toList = [.tmp 3] := by kernel_rfl
@[go_sem] theorem f131_nt : Tryz.f131.ntmps = 9 := by kernel_rfl
@[go_sem] theorem f132_en : entersB Tryz.prog 132 = true := by kernel_rfl
@[go_sem] theorem f132_rs : Tryz.f132.results.toList = [] := by kernel_rfl
@[go_sem] theorem f132_nt : Tryz.f132.ntmps = 134 := by kernel_rfl
@[go_sem] theorem f133_en : entersB Tryz.prog 133 = true := by kernel_rfl
@[go_sem] theorem f133_rs : Tryz.f133.results.toList = [] := by kernel_rfl
@[go_sem] theorem f133_nt : Tryz.f133.ntmps = 53 := by kernel_rfl
@[go_sem] theorem f134_en : entersB Tryz.prog 134 = true := by kernel_rfl
@[go_sem] theorem f134_rs : Tryz.f134.results.toList = [] := by kernel_rfl
@[go_sem] theorem f134_nt : Tryz.f134.ntmps = 60 := by kernel_rfl
@[go_sem] theorem f135_en : entersB Tryz.prog 135 = true := by kernel_rfl
@[go_sem] theorem f135_rs : Tryz.f135.results.toList = [] := by kernel_rfl
@[go_sem] theorem f135_nt : Tryz.f135.ntmps = 67 := by kernel_rfl
@[go_sem] theorem f136_en : entersB Tryz.prog 136 = true := by kernel_rfl
@[go_sem] theorem f136_rs : Tryz.f136.results.toList = [.tmp 8, .tmp 9] := by kernel_rfl
@[go_sem] theorem f136_nt : Tryz.f136.ntmps = 63 := by kernel_rfl
@[go_sem] theorem f137_en : entersB Tryz.prog 137 = true := by kernel_rfl
@[go_sem] theorem f137_rs : Tryz.f137.results.toList = [] := by kernel_rfl
@[go_sem] theorem f137_nt : Tryz.f137.ntmps = 34 := by kernel_rfl
@[go_sem] theorem f138_en : entersB Tryz.prog 138 = true := by kernel_rfl
@[go_sem] theorem f138_rs : Tryz.f138.results.toList = [.tmp 8] := by kernel_rfl
@[go_sem] theorem f138_nt : Tryz.f138.ntmps = 141 := by kernel_rfl
@[go_sem] theorem f139_en : entersB Tryz.prog 139 = true := by kernel_rfl
@[go_sem] theorem f139_rs : Tryz.f139.results.toList = [.tmp 10] := by kernel_rfl
@[go_sem] theorem f139_nt : Tryz.f139.ntmps = 90 := by kernel_rfl
@[go_sem] theorem f140_en : entersB Tryz.prog 140 = true := by kernel_rfl
@[go_sem] theorem f140_rs : Tryz.f140.results.toList = [.tmp 10, .tmp 11] := by kernel_rfl
@[go_sem] theorem f140_nt : Tryz.f140.ntmps = 178 := by kernel_rfl
@[go_sem] theorem f141_en : entersB Tryz.prog 141 = true := by kernel_rfl
@[go_sem] theorem f141_rs : Tryz.f141.results.toList = [.tmp 2] := by kernel_rfl
@[go_sem] theorem f141_nt : Tryz.f141.ntmps = 19 := by kernel_rfl
@[go_sem] theorem f142_en : entersB Tryz.prog 142 = true := by kernel_rfl
@[go_sem] theorem f142_rs : Tryz.f142.results.toList = [.tmp 2] := by kernel_rfl
@[go_sem] theorem f142_nt : Tryz.f142.ntmps = 25 := by kernel_rfl
@[go_sem] theorem f143_en : entersB Tryz.prog 143 = true := by kernel_rfl
@[go_sem] theorem f143_rs : Tryz.f143.results.toList = [.tmp 2] := by kernel_rfl
@[go_sem] theorem f143_nt : Tryz.f143.ntmps = 6 := by kernel_rfl
@[go_sem] theorem f144_en : entersB Tryz.prog 144 = true := by kernel_rfl
@[go_sem] theorem f144_rs : Tryz.f144.results.toList = [.tmp 2] := by kernel_rfl
@[go_sem] theorem f144_nt : Tryz.f144.ntmps = 9 := by kernel_rfl
@[go_sem] theorem f145_en : entersB Tryz.prog 145 = true := by kernel_rfl
@[go_sem] theorem f145_rs : Tryz.f145.results.toList = [.tmp 2] := by kernel_rfl
@[go_sem] theorem f145_nt : Tryz.f145.ntmps = 9 := by kernel_rfl
@[go_sem] theorem f146_en : entersB Tryz.prog 146 = true := by kernel_rfl
@[go_sem] theorem f146_rs : Tryz.f146.results.toList = [.tmp 8] := by kernel_rfl
@[go_sem] theorem f146_nt : Tryz.f146.ntmps = 54 := by kernel_rfl
@[go_sem] theorem f147_en : entersB Tryz.prog 147 = true := by kernel_rfl
@[go_sem] theorem f147_rs : Tryz.f147.results.toList = [.tmp 2] := by kernel_rfl
@[go_sem] theorem f147_nt : Tryz.f147.ntmps = 7 := by kernel_rfl
@[go_sem] theorem f148_en : entersB Tryz.prog 148 = true := by kernel_rfl
@[go_sem] theorem f148_rs : Tryz.f148.results.toList = [.tmp 4] := by kernel_rfl
@[go_sem] theorem f148_nt : Tryz.f148.ntmps = 22 := by kernel_rfl
@[go_sem] theorem f149_en : entersB Tryz.prog 149 = true := by kernel_rfl
@[go_sem] theorem f149_rs : Tryz.f149.results.toList = [.tmp 6, .tmp 7] := by kernel_rfl
@[go_sem] theorem f149_nt : Tryz.f149.ntmps = 49 := by kernel_rfl
@[go_sem] theorem f150_en : entersB Tryz.prog 150 = true := by kernel_rfl
@[go_sem] theorem f150_rs : Tryz.f150.results.toList = [.tmp 4] := by kernel_rfl
@[go_sem] theorem f150_nt : Tryz.f150.ntmps = 9 := by kernel_rfl
@[go_sem] theorem f151_en : entersB Tryz.prog 151 = true := by kernel_rfl
@[go_sem] theorem f151_rs : Tryz.f151.results.toList = [.tmp 4] := by kernel_rfl
@[go_sem] theorem f151_nt : Tryz.f151.ntmps = 8 := by kernel_rfl
@[go_sem] theorem f152_en : entersB Tryz.prog 152 = true := by kernel_rfl
@[go_sem] theorem f152_rs : Tryz.f152.results.toList = [.tmp 2] := by kernel_rfl
@[go_sem] theorem f152_nt : Tryz.f152.ntmps = 29 := by kernel_rfl
@[go_sem] theorem f153_en : entersB Tryz.prog 153 = true := by kernel_rfl
@[go_sem] theorem f153_rs : Tryz.f153.results.toList = [.tmp 4] := by kernel_rfl
@[go_sem] theorem f153_nt : Tryz.f153.ntmps = 24 := by kernel_rfl
@[go_sem] theorem f154_en : entersB Tryz.prog 154 = true := by kernel_rfl
@[go_sem] theorem f154_rs : Tryz.f154.results.toList = [.tmp 2] := by kernel_rfl
@[go_sem] theorem f154_nt : Tryz.f154.ntmps = 20 := by kernel_rfl
@[go_sem] theorem f155_en : entersB Tryz.prog 155 = true := by kernel_rfl
@[go_sem] theorem f155_rs : Tryz.f155.results.toList = [.tmp 2] := by kernel_rfl
@[go_sem] theorem f155_nt : Tryz.f155.ntmps = 40 := by kernel_rfl
@[go_sem] theorem f156_en : entersB Tryz.prog 156 = true := by kernel_rfl
@[go_sem] theorem f156_rs : Tryz.f156.results.toList = [.cell 4 197] := by kernel_rfl
@[go_sem] theorem f156_nt : Tryz.f156.ntmps = 57 := by kernel_rfl
@[go_sem] theorem f157_en : entersB Tryz.prog 157 = true := by kernel_rfl
@[go_sem] theorem f157_rs : Tryz.f157.results.toList = [.tmp 4] := by kernel_rfl
@[go_sem] theorem f157_nt : Tryz.f157.ntmps = 49 := by kernel_rfl
@[go_sem] theorem f158_en : entersB Tryz.prog 158 = true := by kernel_rfl
@[go_sem] theorem f158_rs : Tryz.f158.results.toList = [.tmp 6] := by kernel_rfl
@[go_sem] theorem f158_nt : Tryz.f158.ntmps = 46 := by kernel_rfl
@[go_sem] theorem f159_en : entersB Tryz.prog 159 = true := by kernel_rfl
@[go_sem] theorem f159_rs : Tryz.f159.results.toList = [.tmp 2] := by kernel_rfl
@[go_sem] theorem f159_nt : Tryz.f159.ntmps = 21 := by kernel_rfl
@[go_sem] theorem f160_en : entersB Tryz.prog 160 = true := by kernel_rfl
@[go_sem] theorem f160_rs : Tryz.f160.results.toList = [] := by kernel_rfl
@[go_sem] theorem f160_nt : Tryz.f160.ntmps = 31 := by kernel_rfl
@[go_sem] theorem f161_en : entersB Tryz.prog 161 = true := by kernel_rfl
@[go_sem] theorem f161_rs : Tryz.f161.results.toList = [] := by kernel_rfl
@[go_sem] theorem f161_nt : Tryz.f161.ntmps = 13 := by kernel_rfl
@[go_sem] theorem f162_en : entersB Tryz.prog 162 = true := by kernel_rfl
@[go_sem] theorem f162_rs : Tryz.f162.results.toList = [.tmp 2] := by kernel_rfl
@[go_sem] theorem f162_nt : Tryz.f162.ntmps = 33 := by kernel_rfl
@[go_sem] theorem f163_en : entersB Tryz.prog 163 = true := by kernel_rfl
@[go_sem] theorem f163_rs : Tryz.f163.results.toList = [.tmp 4] := by kernel_rfl
@[go_sem] theorem f163_nt : Tryz.f163.ntmps = 8 := by kernel_rfl
@[go_sem] theorem f164_en : entersB Tryz.prog 164 = true := by kernel_rfl
@[go_sem] theorem f164_rs : Tryz.f164.results.toList = [.tmp 6] := by kernel_rfl
@[go_sem] theorem f164_nt : Tryz.f164.ntmps = 33 := by kernel_rfl
@[go_sem] theorem f165_en : entersB Tryz.prog 165 = true := by kernel_rfl
@[go_sem] theorem f165_rs : Tryz.f165.results.toList = [.tmp 4] := by kernel_rfl
@[go_sem] theorem f165_nt : Tryz.f165.ntmps = 19 := by kernel_rfl
@[go_sem] theorem f166_en : entersB Tryz.prog 166 = true := by kernel_rfl
@[go_sem] theorem f166_rs : Tryz.f166.results.toList = [] := by kernel_rfl
@[go_sem] theorem f166_nt : Tryz.f166.ntmps = 49 := by kernel_rfl
@[go_sem] theorem f167_en : entersB Tryz.prog 167 = true := by kernel_rfl
@[go_sem] theorem f167_rs : Tryz.f167.results.toList = [] := by kernel_rfl
@[go_sem] theorem f167_nt : Tryz.f167.ntmps = 56 := by kernel_rfl
@[go_sem] theorem f168_en : entersB Tryz.prog 168 = true := by kernel_rfl
@[go_sem] theorem f168_rs : Tryz.f168.results.toList = [] := by kernel_rfl
@[go_sem] theorem f168_nt : Tryz.f168.ntmps = 65 := by kernel_rfl
@[go_sem] theorem f169_en : entersB Tryz.prog 169 = true := by kernel_rfl
@[go_sem] theorem f169_rs : Tryz.f169.results.toList = [.tmp 6, .tmp 7] := by kernel_rfl
@[go_sem] theorem f169_nt : Tryz.f169.ntmps = 57 := by kernel_rfl
@[go_sem] theorem f170_en : entersB Tryz.prog 170 = true := by kernel_rfl
@[go_sem] theorem f170_rs : Tryz.f170.results.toList = [] := by kernel_rfl
@[go_sem] theorem f170_nt : Tryz.f170.ntmps = 32 := by kernel_rfl
@[go_sem] theorem f171_en : entersB Tryz.prog 171 = true := by kernel_rfl
@[go_sem] theorem f171_rs : Tryz.f171.results.toList = [.tmp 6] := by kernel_rfl
@[go_sem] theorem f171_nt : Tryz.f171.ntmps = 133 := by kernel_rfl
@[go_sem] theorem f172_en : entersB Tryz.prog 172 = true := by kernel_rfl
@[go_sem] theorem f172_rs : Tryz.f172.results.toList = [.tmp 4] := by kernel_rfl
@[go_sem] theorem f172_nt : Tryz.f172.ntmps = 17 := by kernel_rfl
@[go_sem] theorem f173_en : entersB Tryz.prog 173 = true := by kernel_rfl
@[go_sem] theorem f173_rs : Tryz.f173.results.toList = [.tmp 8] := by kernel_rfl
@[go_sem] theorem f173_nt : Tryz.f173.ntmps = 84 := by kernel_rfl
@[go_sem] theorem f174_en : entersB Tryz.prog 174 = true := by kernel_rfl
@[go_sem] theorem f174_rs : Tryz.f174.results.toList = [.tmp 8, .tmp 9] := by kernel_rfl
@[go_sem] theorem f174_nt : Tryz.f174.ntmps = 168 := by kernel_rfl
@[go_sem] theorem f175_en : entersB Tryz.prog 175 = true := by kernel_rfl
@[go_sem] theorem f175_rs : Tryz.f175.results.toList = [] := by kernel_rfl
@[go_sem] theorem f175_nt : Tryz.f175.ntmps = 82 := by kernel_rfl
@[go_sem] theorem f176_en : entersB Tryz.prog 176 = true := by kernel_rfl
@[go_sem] theorem f176_rs : Tryz.f176.results.toList = [.tmp 2] := by kernel_rfl
@[go_sem] theorem f176_nt : Tryz.f176.ntmps = 7 := by kernel_rfl
@[go_sem] theorem f177_en : entersB Tryz.prog 177 = true := by kernel_rfl
@[go_sem] theorem f177_rs : Tryz.f177.results.toList = [.tmp 2] := by kernel_rfl
@[go_sem] theorem f177_nt : Tryz.f177.ntmps = 33 := by kernel_rfl
@[go_sem] theorem f178_en : entersB Tryz.prog 178 = true := by kernel_rfl
@[go_sem] theorem f178_rs : Tryz.f178.results.toList = [.tmp 8] := by kernel_rfl
@[go_sem] theorem f178_nt : Tryz.f178.ntmps = 18 := by kernel_rfl
@[go_sem] theorem f179_en : entersB Tryz.prog 179 = true := by kernel_rfl
@[go_sem] theorem f179_rs : Tryz.f179.results.toList = [.tmp 12] := by kernel_rfl
@[go_sem] theorem f179_nt : Tryz.f179.ntmps = 41 := by kernel_rfl
@[go_sem] theorem f180_en : entersB Tryz.prog 180 = true := by kernel_rfl
@[go_sem] theorem f180_rs : Tryz.f180.results.toList = [.tmp 4] := by kernel_rfl
@[go_sem] theorem f180_nt : Tryz.f180.ntmps = 9 := by kernel_rfl
@[go_sem] theorem f181_en : entersB Tryz.prog 181 = true := by kernel_rfl
@[go_sem] theorem f181_rs : Tryz.f181.results.toList = [] := by kernel_rfl
@[go_sem] theorem f181_nt : Tryz.f181.ntmps = 42 := by kernel_rfl
@[go_sem] theorem f182_en : entersB Tryz.prog 182 = true := by kernel_rfl
@[go_sem] theorem f182_rs : Tryz.f182.results.toList = [.tmp 2] := by kernel_rfl
@[go_sem] theorem f182_nt : Tryz.f182.ntmps = 7 := by kernel_rfl
@[go_sem] theorem f183_en : entersB Tryz.prog 183 = true := by kernel_rfl
@[go_sem] theorem f183_rs : Tryz.f183.results.toList = [.tmp 4] := by kernel_rfl
@[go_sem] theorem f183_nt : Tryz.f183.ntmps = 8 := by kernel_rfl
@[go_sem] theorem f184_en : entersB Tryz.prog 184 = true := by kernel_rfl
@[go_sem] theorem f184_rs : Tryz.f184.results.toList = [.tmp 4, .tmp 5, .tmp 6] := by kernel_rfl
@[go_sem] theorem f184_nt : Tryz.f184.ntmps = 76 := by kernel_rfl
@[go_sem] theorem f186_en : entersB Tryz.prog 186 = true := by kernel_rfl
@[go_sem] theorem f186_rs : Tryz.f186.results.toList = [] := by kernel_rfl
@[go_sem] theorem f186_nt : Tryz.f186.ntmps = 76 := by kernel_rfl
@[go_sem] theorem f187_en : entersB Tryz.prog 187 = true := by kernel_rfl
@[go_sem] theorem f187_rs : Tryz.f187.results.toList = [.tmp 6] := by kernel_rfl
@[go_sem] theorem f187_nt : Tryz.f187.ntmps = 15 := by kernel_rfl
@[go_sem] theorem f188_en : entersB Tryz.prog 188 = true := by kernel_rfl
@[go_sem] theorem f188_rs : Tryz.f188.results.toList = [.tmp 10] := by kernel_rfl
@[go_sem] theorem f188_nt : Tryz.f188.ntmps = 36 := by kernel_rfl
@[go_sem] theorem f189_en : entersB Tryz.prog 189 = true := by kernel_rfl
@[go_sem] theorem f189_rs : Tryz.f189.results.toList = [.tmp 10, .tmp 11] := by kernel_rfl
@[go_sem] theorem f189_nt : Tryz.f189.ntmps = 32 := by kernel_rfl
@[go_sem] theorem f190_en : entersB Tryz.prog 190 = true := by kernel_rfl
@[go_sem] theorem f190_rs : Tryz.f190.results.toList = [.tmp 4] := by kernel_rfl
@[go_sem] theorem f190_nt : Tryz.f190.ntmps = 8 := by kernel_rfl
@[go_sem] theorem f191_en : entersB Tryz.prog 191 = true := by kernel_rfl
@[go_sem] theorem f191_rs : Tryz.f191.results.toList = [.tmp 2] := by kernel_rfl
@[go_sem] theorem f191_nt : Tryz.f191.ntmps = 87 := by kernel_rfl
@[go_sem] theorem f193_en : entersB Tryz.prog 193 = true := by kernel_rfl
@[go_sem] theorem f193_rs : Tryz.f193.results.toList = [.tmp 8, .tmp 9] := by kernel_rfl
@[go_sem] theorem f193_nt : Tryz.f193.ntmps = 28 := by kernel_rfl
@[go_sem] theorem f194_en : entersB Tryz.prog 194 = true := by kernel_rfl
@[go_sem] theorem f194_rs : Tryz.f194.results.toList = [.tmp 4] := by kernel_rfl
@[go_sem] theorem f194_nt : Tryz.f194.ntmps = 143 := by kernel_rfl
@[go_sem] theorem f195_en : entersB Tryz.prog 195 = true := by kernel_rfl
@[go_sem] theorem f195_rs : Tryz.f195.results.toList = [.tmp 4] := by kernel_rfl
@[go_sem] theorem f195_nt : Tryz.f195.ntmps = 20 := by kernel_rfl
@[go_sem] theorem f196_en : entersB Tryz.prog 196 = true := by kernel_rfl
@[go_sem] theorem f196_rs : Tryz.f196.results.toList = [.tmp 2] := by kernel_rfl
@[go_sem] theorem f196_nt : Tryz.f196.ntmps = 26 := by kernel_rfl
@[go_sem] theorem f197_en : entersB Tryz.prog 197 = true := by kernel_rfl
@[go_sem] theorem f197_rs : Tryz.f197.results.toList = [.tmp 2, .tmp 3] := by kernel_rfl
@[go_sem] theorem f197_nt : Tryz.f197.ntmps = 18 := by kernel_rfl
@[go_sem] theorem f198_en : entersB Tryz.prog 198 = true := by kernel_rfl
@[go_sem] theorem f198_rs : Tryz.f198.results.toList = [.tmp 4] := by kernel_rfl
@[go_sem] theorem f198_nt : Tryz.f198.ntmps = 62 := by kernel_rfl
@[go_sem] theorem f199_en : entersB Tryz.prog 199 = true := by kernel_rfl
@[go_sem] theorem f199_rs : Tryz.f199.results.toList = [.tmp 2] := by kernel_rfl
@[go_sem] theorem f199_nt : Tryz.f199.ntmps = 12 := by kernel_rfl
@[go_sem] theorem f200_en : entersB Tryz.prog 200 = true := by kernel_rfl
@[go_sem] theorem f200_rs : Tryz.f200.results.toList = [.tmp 4] := by kernel_rfl
@[go_sem] theorem f200_nt : Tryz.f200.ntmps = 44 := by kernel_rfl
@[go_sem] theorem f202_en : entersB Tryz.prog 202 = true := by kernel_rfl
@[go_sem] theorem f202_rs : Tryz.f202.results.toList = [.tmp 2] := by kernel_rfl
@[go_sem] theorem f202_nt : Tryz.f202.ntmps = 6 := by kernel_rfl
@[go_sem] theorem f203_en : entersB Tryz.prog 203 = true := by kernel_rfl
@[go_sem] theorem f203_rs : Tryz.f203.results.toList = [.tmp 4] := by kernel_rfl
@[go_sem] theorem f203_nt : Tryz.f203.ntmps = 81 := by kernel_rfl
@[go_sem] theorem f204_en : entersB Tryz.prog 204 = true := by kernel_rfl
@[go_sem] theorem f204_rs : Tryz.f204.results.toList = [.tmp 2, .tmp 3] := by kernel_rfl
@[go_sem] theorem f204_nt : Tryz.f204.ntmps = 77 := by kernel_rfl
@[go_sem] theorem f205_en : entersB Tryz.prog 205 = true := by kernel_rfl
@[go_sem] theorem f205_rs : Tryz.f205.results.toList = [.tmp 10] := by kernel_rfl
@[go_sem] theorem f205_nt : Tryz.f205.ntmps = 43 := by kernel_rfl
@[go_sem] theorem f206_en : entersB Tryz.prog 206 = true := by kernel_rfl
@[go_sem] theorem f206_rs : Tryz.f206.results.toList = [] := by kernel_rfl
@[go_sem] theorem f206_nt : Tryz.f206.ntmps = 19 := by kernel_rfl
@[go_sem] theorem f207_en : entersB Tryz.prog 207 = true := by kernel_rfl
@[go_sem] theorem f207_rs : Tryz.f207.results.toList = [.tmp 2, .tmp 3] := by kernel_rfl
@[go_sem] theorem f207_nt : Tryz.f207.ntmps = 39 := by kernel_rfl
@[go_sem] theorem f208_en : entersB Tryz.prog 208 = true := by kernel_rfl
@[go_sem] theorem f208_rs : Tryz.f208.results.toList = [.tmp 6, .tmp 7] := by kernel_rfl
@[go_sem] theorem f208_nt : Tryz.f208.ntmps = 73 := by kernel_rfl
@[go_sem] theorem f209_en : entersB Tryz.prog 209 = true := by kernel_rfl
@[go_sem] theorem f209_rs : Tryz.f209.results.toList = [.tmp 4] := by kernel_rfl
@[go_sem] theorem f209_nt : Tryz.f209.ntmps = 11 := by kernel_rfl
@[go_sem] theorem f210_en : entersB Tryz.prog 210 = true := by kernel_rfl
@[go_sem] theorem f210_rs : Tryz.f210.results.toList = [.tmp 4] := by kernel_rfl
@[go_sem] theorem f210_nt : Tryz.f210.ntmps = 11 := by kernel_rfl
@[go_sem] theorem f211_en : entersB Tryz.prog 211 = true := by kernel_rfl
@[go_sem] theorem f211_rs : Tryz.f211.results.toList = [.tmp 6] := by kernel_rfl
@[go_sem] theorem f211_nt : Tryz.f211.ntmps = 16 := by kernel_rfl
@[go_sem] theorem f212_en : entersB Tryz.prog 212 = true := by kernel_rfl
@[go_sem] theorem f212_rs : Tryz.f212.results.toList = [.tmp 6] := by kernel_rfl
@[go_sem] theorem f212_nt : Tryz.f212.ntmps = 16 := by kernel_rfl
@[go_sem] theorem f213_en : entersB Tryz.prog 213 = true := by kernel_rfl
@[go_sem] theorem f213_rs : Tryz.f213.results.toList = [.tmp 6, .tmp 7] := by kernel_rfl
@[go_sem] theorem f213_nt : Tryz.f213.ntmps = 172 := by kernel_rfl
@[go_sem] theorem f214_en : entersB Tryz.prog 214 = true := by kernel_rfl
@[go_sem] theorem f214_rs : Tryz.f214.results.toList = [.tmp 2] := by kernel_rfl
@[go_sem] theorem f214_nt : Tryz.f214.ntmps = 18 := by kernel_rfl
@[go_sem] theorem f215_en : entersB Tryz.prog 215 = true := by kernel_rfl
@[go_sem] theorem f215_rs : Tryz.f215.results.toList = [.tmp 2] := by kernel_rfl
@[go_sem] theorem f215_nt : Tryz.f215.ntmps = 7 := by kernel_rfl
@[go_sem] theorem f216_en : entersB Tryz.prog 216 = true := by kernel_rfl
@[go_sem] theorem f216_rs : Tryz.f216.results.toList = [.tmp 2] := by kernel_rfl
@[go_sem] theorem f216_nt : Tryz.f216.ntmps = 5 := by kernel_rfl
@[go_sem] theorem f217_en : entersB Tryz.prog 217 = true := by kernel_rfl
@[go_sem] theorem f217_rs : Tryz.f217.results.toList = [.tmp 2] := by kernel_rfl
@[go_sem] theorem f217_nt : Tryz.f217.ntmps = 5 := by kernel_rfl
@[go_sem] theorem f218_en : entersB Tryz.prog 218 = true := by kernel_rfl
@[go_sem] theorem f218_rs : Tryz.f218.results.toList = [.tmp 2] := by kernel_rfl
@[go_sem] theorem f218_nt : Tryz.f218.ntmps = 94 := by kernel_rfl
@[go_sem] theorem f219_en : entersB Tryz.prog 219 = true := by kernel_rfl
@[go_sem] theorem f219_rs : Tryz.f219.results.toList = [.tmp 2] := by kernel_rfl
@[go_sem] theorem f219_nt : Tryz.f219.ntmps = 5 := by kernel_rfl
@[go_sem] theorem f220_en : entersB Tryz.prog 220 = true := by kernel_rfl
@[go_sem] theorem f220_rs : Tryz.f220.results.toList = [.tmp 4] := by kernel_rfl
@[go_sem] theorem f220_nt : Tryz.f220.ntmps = 54 := by kernel_rfl
@[go_sem] theorem f221_en : entersB Tryz.prog 221 = true := by kernel_rfl
@[go_sem] theorem f221_rs : Tryz.f221.results.toList = [.tmp 2] := by kernel_rfl
@[go_sem] theorem f221_nt : Tryz.f221.ntmps = 15 := by kernel_rfl
@[go_sem] theorem f222_en : entersB Tryz.prog 222 = true := by kernel_rfl
@[go_sem] theorem f222_rs : Tryz.f222.results.toList = [.tmp 2] := by kernel_rfl
@[go_sem] theorem f222_nt : Tryz.f222.ntmps = 15 := by kernel_rfl
@[go_sem] theorem f223_en : entersB Tryz.prog 223 = true := by kernel_rfl
@[go_sem] theorem f223_rs : Tryz.f223.results.toList = [] := by kernel_rfl
@[go_sem] theorem f223_nt : Tryz.f223.ntmps = 167 := by kernel_rfl
@[go_sem] theorem f224_en : entersB Tryz.prog 224 = true := by kernel_rfl
@[go_sem] theorem f224_rs : Tryz.f224.results.toList = [.tmp 10, .tmp 11] := by kernel_rfl
@[go_sem] theorem f224_nt : Tryz.f224.ntmps = 102 := by kernel_rfl
@[go_sem] theorem f225_en : entersB Tryz.prog 225 = true := by kernel_rfl
@[go_sem] theorem f225_rs : Tryz.f225.results.toList = [.tmp 2] := by kernel_rfl
@[go_sem] theorem f225_nt : Tryz.f225.ntmps = 6 := by kernel_rfl
@[go_sem] theorem f226_en : entersB Tryz.prog 226 = true := by kernel_rfl
@[go_sem] theorem f226_rs : Tryz.f226.results.toList = [.tmp 2] := by kernel_rfl
@[go_sem] theorem f226_nt : Tryz.f226.ntmps = 4 := by kernel_rfl
@[go_sem] theorem f227_en : entersB Tryz.prog 227 = true := by kernel_rfl
@[go_sem] theorem f227_rs : Tryz.f227.results.toList = [.tmp 2] := by kernel_rfl
@[go_sem] theorem f227_nt : Tryz.f227.ntmps = 8 := by kernel_rfl
@[go_sem] theorem f228_en : entersB Tryz.prog 228 = true := by kernel_rfl
@[go_sem] theorem f228_rs : Tryz.f228.results.toList = [.tmp 2] := by kernel_rfl
@[go_sem] theorem f228_nt : Tryz.f228.ntmps = 8 := by kernel_rfl
@[go_sem] theorem f229_en : entersB Tryz.prog 229 = true := by kernel_rfl
@[go_sem] theorem f229_rs : Tryz.f229.results.toList = [.tmp 2] := by kernel_rfl
@[go_sem] theorem f229_nt : Tryz.f229.ntmps = 14 := by kernel_rfl
@[go_sem] theorem f230_en : entersB Tryz.prog 230 = true := by kernel_rfl
@[go_sem] theorem f230_rs : Tryz.f230.results.toList = [.tmp 2] := by kernel_rfl
@[go_sem] theorem f230_nt : Tryz.f230.ntmps = 14 := by kernel_rfl
@[go_sem] theorem f259_en : entersB Tryz.prog 259 = true := by kernel_rfl
@[go_sem] theorem f259_rs : Tryz.f259.results.toList = [] := by kernel_rfl
@[go_sem] theorem f259_nt : Tryz.f259.ntmps = 5 := by kernel_rfl
@[go_sem] theorem f0_en : entersB Tryz.prog 0 = false := by kernel_rfl
@[go_sem] theorem f1_en : entersB Tryz.prog 1 = false := by kernel_rfl
@[go_sem] theorem f185_en : entersB Tryz.prog 185 = false := by kernel_rfl
@[go_sem] theorem f192_en : entersB Tryz.prog 192 = false := by kernel_rfl
@[go_sem] theorem f201_en : entersB Tryz.prog 201 = false := by kernel_rfl
@[go_sem] theorem f231_en : entersB Tryz.prog 231 = false := by kernel_rfl
@[go_sem] theorem f232_en : entersB Tryz.prog 232 = false := by kernel_rfl
@[go_sem] theorem f233_en : entersB Tryz.prog 233 = false := by kernel_rfl
@[go_sem] theorem f234_en : entersB Tryz.prog 234 = false := by kernel_rfl
@[go_sem] theorem f235_en : entersB Tryz.prog 235 = false := by kernel_rfl
@[go_sem] theorem f236_en : entersB Tryz.prog 236 = false := by kernel_rfl
@[go_sem] theorem f237_en : entersB Tryz.prog 237 = false := by kernel_rfl
@[go_sem] theorem f238_en : entersB Tryz.prog 238 = false := by kernel_rfl
@[go_sem] theorem f239_en : entersB Tryz.prog 239 = false := by kernel_rfl
@[go_sem] theorem f240_en : entersB Tryz.prog 240 = false := by kernel_rfl
@[go_sem] theorem f241_en : entersB Tryz.prog 241 = false := by kernel_rfl
@[go_sem] theorem f242_en : entersB Tryz.prog 242 = false := by kernel_rfl
@[go_sem] theorem f243_en : entersB Tryz.prog 243 = false := by kernel_rfl
@[go_sem] theorem f244_en : entersB Tryz.prog 244 = false := by kernel_rfl
@[go_sem] theorem f245_en : entersB Tryz.prog 245 = false := by kernel_rfl
@[go_sem] theorem f246_en : entersB Tryz.prog 246 = false := by kernel_rfl
@[go_sem] theorem f247_en : entersB Tryz.prog 247 = false := by kernel_rfl
@[go_sem] theorem f248_en : entersB Tryz.prog 248 = false := by kernel_rfl
@[go_sem] theorem f249_en : entersB Tryz.prog 249 = false := by kernel_rfl
@[go_sem] theorem f250_en : entersB Tryz.prog 250 = false := by kernel_rfl
@[go_sem] theorem f251_en : entersB Tryz.prog 251 = false := by kernel_rfl
@[go_sem] theorem f252_en : entersB Tryz.prog 252 = false := by kernel_rfl
@[go_sem] theorem f253_en : entersB Tryz.prog 253 = false := by kernel_rfl
@[go_sem] theorem f254_en : entersB Tryz.prog 254 = false := by kernel_rfl
@[go_sem] theorem f255_en : entersB Tryz.prog 255 = false := by kernel_rfl
@[go_sem] theorem f256_en : entersB Tryz.prog 256 = false := by kernel_rfl
@[go_sem] theorem f257_en : entersB Tryz.prog 257 = false := by kernel_rfl
@[go_sem] theorem f258_en : entersB Tryz.prog 258 = false := by kernel_rfl
end Go.Proofs.YthgdllfkejlnmaaGreatDoor
