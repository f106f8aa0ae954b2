/- Facts on the types. No condition. -/
import Derived.Test.YtdcedhgkigpejaaGreatDoorRows
import Derived.Test.YtdcedhgkigpejaaGreatDoorHCoreC
namespace Go.Proofs.YtdcedhgkigpejaaGreatDoor
open Go Go.RowKit
@[go_sem] theorem t3_ag : aggT Tryz.prog 3 = false := by kernel_rfl
@[go_sem] theorem t3_sz : szT Tryz.prog 3 = 1 := by kernel_rfl
@[go_sem] theorem t3_in : (Tryz.prog.info? 3).isSome = true := by kernel_rfl
@[go_sem] theorem t3_un : (Tryz.prog.underlying 3).isSome = true := by kernel_rfl
@[go_sem] theorem t3_ze : zeroT Tryz.prog 3 = some [.int .i64 0] := by kernel_rfl
@[go_sem] theorem t3_by : Tryz.prog.bytesOf 3 = 8 := by kernel_rfl
@[go_sem] theorem t4_ag : aggT Tryz.prog 4 = false := by kernel_rfl
@[go_sem] theorem t4_sz : szT Tryz.prog 4 = 1 := by kernel_rfl
@[go_sem] theorem t4_in : (Tryz.prog.info? 4).isSome = true := by kernel_rfl
@[go_sem] theorem t4_un : (Tryz.prog.underlying 4).isSome = true := by kernel_rfl
@[go_sem] theorem t4_ze : zeroT Tryz.prog 4 = some [.bool false] := by kernel_rfl
@[go_sem] theorem t4_by : Tryz.prog.bytesOf 4 = 1 := by kernel_rfl
@[go_sem] theorem t5_ag : aggT Tryz.prog 5 = false := by kernel_rfl
@[go_sem] theorem t5_sz : szT Tryz.prog 5 = 1 := by kernel_rfl
@[go_sem] theorem t5_in : (Tryz.prog.info? 5).isSome = true := by kernel_rfl
@[go_sem] theorem t5_un : (Tryz.prog.underlying 5).isSome = true := by kernel_rfl
@[go_sem] theorem t5_ze : zeroT Tryz.prog 5 = some [.int .u8 0] := by kernel_rfl
@[go_sem] theorem t5_by : Tryz.prog.bytesOf 5 = 1 := by kernel_rfl
@[go_sem] theorem t9_ag : aggT Tryz.prog 9 = false := by kernel_rfl
@[go_sem] theorem t9_sz : szT Tryz.prog 9 = 1 := by kernel_rfl
@[go_sem] theorem t9_in : (Tryz.prog.info? 9).isSome = true := by kernel_rfl
@[go_sem] theorem t9_un : (Tryz.prog.underlying 9).isSome = true := by kernel_rfl
@[go_sem] theorem t9_ze : zeroT Tryz.prog 9 = some [.str ⟨#[]⟩] := by kernel_rfl
@[go_sem] theorem t9_by : Tryz.prog.bytesOf 9 = 16 := by kernel_rfl
@[go_sem] theorem t22_ag : aggT Tryz.prog 22 = false := by kernel_rfl
@[go_sem] theorem t22_sz : szT Tryz.prog 22 = 1 := by kernel_rfl
@[go_sem] theorem t22_in : (Tryz.prog.info? 22).isSome = true := by kernel_rfl
@[go_sem] theorem t22_un : (Tryz.prog.underlying 22).isSome = true := by kernel_rfl
@[go_sem] theorem t22_ze : zeroT Tryz.prog 22 = some [.sl none 0] := by kernel_rfl
@[go_sem] theorem t22_by : Tryz.prog.bytesOf 22 = 24 := by kernel_rfl
@[go_sem] theorem t25_ag : aggT Tryz.prog 25 = true := by kernel_rfl
@[go_sem] theorem t25_sz : szT Tryz.prog 25 = 2 := by kernel_rfl
@[go_sem] theorem t25_in : (Tryz.prog.info? 25).isSome = true := by kernel_rfl
@[go_sem] theorem t25_un : (Tryz.prog.underlying 25).isSome = true := by kernel_rfl
@[go_sem] theorem t25_ze : zeroT Tryz.prog 25 = some [.sl none 0, .int .i64 0] := by kernel_rfl
@[go_sem] theorem t25_by : Tryz.prog.bytesOf 25 = 32 := by kernel_rfl
@[go_sem] theorem t25_fo : fieldsOk Tryz.prog 25 = true := by kernel_rfl
@[go_sem] theorem t27_ag : aggT Tryz.prog 27 = false := by kernel_rfl
@[go_sem] theorem t27_sz : szT Tryz.prog 27 = 1 := by kernel_rfl
@[go_sem] theorem t27_in : (Tryz.prog.info? 27).isSome = true := by kernel_rfl
@[go_sem] theorem t27_un : (Tryz.prog.underlying 27).isSome = true := by kernel_rfl
@[go_sem] theorem t27_ze : zeroT Tryz.prog 27 = some [.sl none 0] := by kernel_rfl
@[go_sem] theorem t27_by : Tryz.prog.bytesOf 27 = 24 := by kernel_rfl
@[go_sem] theorem t30_ag : aggT Tryz.prog 30 = false := by kernel_rfl
@[go_sem] theorem t30_sz : szT Tryz.prog 30 = 1 := by kernel_rfl
@[go_sem] theorem t30_in : (Tryz.prog.info? 30).isSome = true := by kernel_rfl
@[go_sem] theorem t30_un : (Tryz.prog.underlying 30).isSome = true := by kernel_rfl
@[go_sem] theorem t30_ze : zeroT Tryz.prog 30 = some [.int .i64 0] := by kernel_rfl
@[go_sem] theorem t30_by : Tryz.prog.bytesOf 30 = 8 := by kernel_rfl
@[go_sem] theorem t39_ag : aggT Tryz.prog 39 = true := by kernel_rfl
@[go_sem] theorem t39_sz : szT Tryz.prog 39 = 6 := by kernel_rfl
@[go_sem] theorem t39_in : (Tryz.prog.info? 39).isSome = true := by kernel_rfl
@[go_sem] theorem t39_un : (Tryz.prog.underlying 39).isSome = true := by kernel_rfl
@[go_sem] theorem t39_ze : zeroT Tryz.prog 39 = some [.int .i64 0, .int .i64 0, .int .i64 0, .int .i64 0, .int .i64 0, .int .i64 0] := by kernel_rfl
@[go_sem] theorem t39_by : Tryz.prog.bytesOf 39 = 48 := by kernel_rfl
@[go_sem] theorem t39_fo : fieldsOk Tryz.prog 39 = true := by kernel_rfl
@[go_sem] theorem t50_ag : aggT Tryz.prog 50 = true := by kernel_rfl
@[go_sem] theorem t50_sz : szT Tryz.prog 50 = 2 := by kernel_rfl
@[go_sem] theorem t50_in : (Tryz.prog.info? 50).isSome = true := by kernel_rfl
@[go_sem] theorem t50_un : (Tryz.prog.underlying 50).isSome = true := by kernel_rfl
@[go_sem] theorem t50_ze : zeroT Tryz.prog 50 = some [.int .i64 0, .int .i64 0] := by kernel_rfl
@[go_sem] theorem t50_by : Tryz.prog.bytesOf 50 = 16 := by kernel_rfl
@[go_sem] theorem t50_fo : fieldsOk Tryz.prog 50 = true := by kernel_rfl
@[go_sem] theorem t51_ag : aggT Tryz.prog 51 = false := by kernel_rfl
@[go_sem] theorem t51_sz : szT Tryz.prog 51 = 1 := by kernel_rfl
@[go_sem] theorem t51_in : (Tryz.prog.info? 51).isSome = true := by kernel_rfl
@[go_sem] theorem t51_un : (Tryz.prog.underlying 51).isSome = true := by kernel_rfl
@[go_sem] theorem t51_ze : zeroT Tryz.prog 51 = some [.sl none 0] := by kernel_rfl
@[go_sem] theorem t51_by : Tryz.prog.bytesOf 51 = 24 := by kernel_rfl
@[go_sem] theorem t56_ag : aggT Tryz.prog 56 = true := by kernel_rfl
@[go_sem] theorem t56_sz : szT Tryz.prog 56 = 2 := by kernel_rfl
@[go_sem] theorem t56_in : (Tryz.prog.info? 56).isSome = true := by kernel_rfl
@[go_sem] theorem t56_un : (Tryz.prog.underlying 56).isSome = true := by kernel_rfl
@[go_sem] theorem t56_ze : zeroT Tryz.prog 56 = some [.int .i64 0, .int .i64 0] := by kernel_rfl
@[go_sem] theorem t56_by : Tryz.prog.bytesOf 56 = 16 := by kernel_rfl
@[go_sem] theorem t56_fo : fieldsOk Tryz.prog 56 = true := by kernel_rfl
@[go_sem] theorem t60_ag : aggT Tryz.prog 60 = true := by kernel_rfl
@[go_sem] theorem t60_sz : szT Tryz.prog 60 = 3 := by kernel_rfl
@[go_sem] theorem t60_in : (Tryz.prog.info? 60).isSome = true := by kernel_rfl
@[go_sem] theorem t60_un : (Tryz.prog.underlying 60).isSome = true := by kernel_rfl
@[go_sem] theorem t60_ze : zeroT Tryz.prog 60 = some [.int .i64 0, .int .i64 0, .int .i64 0] := by kernel_rfl
@[go_sem] theorem t60_by : Tryz.prog.bytesOf 60 = 24 := by kernel_rfl
@[go_sem] theorem t60_fo : fieldsOk Tryz.prog 60 = true := by kernel_rfl
@[go_sem] theorem t62_ag : aggT Tryz.prog 62 = true := by kernel_rfl
@[go_sem] theorem t62_sz : szT Tryz.prog 62 = 2 := by kernel_rfl
@[go_sem] theorem t62_in : (Tryz.prog.info? 62).isSome = true := by kernel_rfl
@[go_sem] theorem t62_un : (Tryz.prog.underlying 62).isSome = true := by kernel_rfl
@[go_sem] theorem t62_ze : zeroT Tryz.prog 62 = some [.int .i64 0, .int .i64 0] := by kernel_rfl
@[go_sem] theorem t62_by : Tryz.prog.bytesOf 62 = 16 := by kernel_rfl
@[go_sem] theorem t62_fo : fieldsOk Tryz.prog 62 = true := by kernel_rfl
@[go_sem] theorem t63_ag : aggT Tryz.prog 63 = false := by kernel_rfl
@[go_sem] theorem t63_sz : szT Tryz.prog 63 = 1 := by kernel_rfl
@[go_sem] theorem t63_in : (Tryz.prog.info? 63).isSome = true := by kernel_rfl
@[go_sem] theorem t63_un : (Tryz.prog.underlying 63).isSome = true := by kernel_rfl
@[go_sem] theorem t63_ze : zeroT Tryz.prog 63 = some [.sl none 0] := by kernel_rfl
@[go_sem] theorem t63_by : Tryz.prog.bytesOf 63 = 24 := by kernel_rfl
@[go_sem] theorem t70_ag : aggT Tryz.prog 70 = false := by kernel_rfl
@[go_sem] theorem t70_sz : szT Tryz.prog 70 = 1 := by kernel_rfl
@[go_sem] theorem t70_in : (Tryz.prog.info? 70).isSome = true := by kernel_rfl
@[go_sem] theorem t70_un : (Tryz.prog.underlying 70).isSome = true := by kernel_rfl
@[go_sem] theorem t70_ze : zeroT Tryz.prog 70 = some [.sl none 0] := by kernel_rfl
@[go_sem] theorem t70_by : Tryz.prog.bytesOf 70 = 24 := by kernel_rfl
@[go_sem] theorem t72_ag : aggT Tryz.prog 72 = false := by kernel_rfl
@[go_sem] theorem t72_sz : szT Tryz.prog 72 = 1 := by kernel_rfl
@[go_sem] theorem t72_in : (Tryz.prog.info? 72).isSome = true := by kernel_rfl
@[go_sem] theorem t72_un : (Tryz.prog.underlying 72).isSome = true := by kernel_rfl
@[go_sem] theorem t72_ze : zeroT Tryz.prog 72 = some [.sl none 0] := by kernel_rfl
@[go_sem] theorem t72_by : Tryz.prog.bytesOf 72 = 24 := by kernel_rfl
@[go_sem] theorem t90_ag : aggT Tryz.prog 90 = true := by kernel_rfl
@[go_sem] theorem t90_sz : szT Tryz.prog 90 = 2 := by kernel_rfl
@[go_sem] theorem t90_in : (Tryz.prog.info? 90).isSome = true := by kernel_rfl
@[go_sem] theorem t90_un : (Tryz.prog.underlying 90).isSome = true := by kernel_rfl
@[go_sem] theorem t90_ze : zeroT Tryz.prog 90 = some [.int .i64 0, .int .i64 0] := by kernel_rfl
@[go_sem] theorem t90_by : Tryz.prog.bytesOf 90 = 16 := by kernel_rfl
@[go_sem] theorem t90_fo : fieldsOk Tryz.prog 90 = true := by kernel_rfl
@[go_sem] theorem t115_ag : aggT Tryz.prog 115 = true := by kernel_rfl
@[go_sem] theorem t115_sz : szT Tryz.prog 115 = 6 := by kernel_rfl
@[go_sem] theorem t115_in : (Tryz.prog.info? 115).isSome = true := by kernel_rfl
@[go_sem] theorem t115_un : (Tryz.prog.underlying 115).isSome = true := by kernel_rfl
@[go_sem] theorem t115_ze : zeroT Tryz.prog 115 = some [.str ⟨#[]⟩, .str ⟨#[]⟩, .int .i64 0, .int .i64 0, .int .i64 0, .int .i64 0] := by kernel_rfl
@[go_sem] theorem t115_by : Tryz.prog.bytesOf 115 = 64 := by kernel_rfl
@[go_sem] theorem t115_fo : fieldsOk Tryz.prog 115 = true := by kernel_rfl
@[go_sem] theorem t116_ag : aggT Tryz.prog 116 = false := by kernel_rfl
@[go_sem] theorem t116_sz : szT Tryz.prog 116 = 1 := by kernel_rfl
@[go_sem] theorem t116_in : (Tryz.prog.info? 116).isSome = true := by kernel_rfl
@[go_sem] theorem t116_un : (Tryz.prog.underlying 116).isSome = true := by kernel_rfl
@[go_sem] theorem t116_ze : zeroT Tryz.prog 116 = some [.sl none 0] := by kernel_rfl
@[go_sem] theorem t116_by : Tryz.prog.bytesOf 116 = 24 := by kernel_rfl
@[go_sem] theorem t125_ag : aggT Tryz.prog 125 = true := by kernel_rfl
@[go_sem] theorem t125_sz : szT Tryz.prog 125 = 11 := by kernel_rfl
@[go_sem] theorem t125_in : (Tryz.prog.info? 125).isSome = true := by kernel_rfl
@[go_sem] theorem t125_un : (Tryz.prog.underlying 125).isSome = true := by kernel_rfl
@[go_sem] theorem t125_ze : zeroT Tryz.prog 125 = some [.str ⟨#[]⟩, .int .i64 0, .int .i64 0, .int .i64 0, .int .i64 0, .int .i64 0, .int .i64 0, .int .i64 0, .int .i64 0, .int .i64 0, .int .i64 0] := by kernel_rfl
@[go_sem] theorem t125_by : Tryz.prog.bytesOf 125 = 96 := by kernel_rfl
@[go_sem] theorem t125_fo : fieldsOk Tryz.prog 125 = true := by kernel_rfl
@[go_sem] theorem t132_ag : aggT Tryz.prog 132 = false := by kernel_rfl
@[go_sem] theorem t132_sz : szT Tryz.prog 132 = 1 := by kernel_rfl
@[go_sem] theorem t132_in : (Tryz.prog.info? 132).isSome = true := by kernel_rfl
@[go_sem] theorem t132_un : (Tryz.prog.underlying 132).isSome = true := by kernel_rfl
@[go_sem] theorem t132_ze : zeroT Tryz.prog 132 = some [.ptr none] := by kernel_rfl
@[go_sem] theorem t132_by : Tryz.prog.bytesOf 132 = 8 := by kernel_rfl
@[go_sem] theorem t133_ag : aggT Tryz.prog 133 = false := by kernel_rfl
@[go_sem] theorem t133_sz : szT Tryz.prog 133 = 1 := by kernel_rfl
@[go_sem] theorem t133_in : (Tryz.prog.info? 133).isSome = true := by kernel_rfl
@[go_sem] theorem t133_un : (Tryz.prog.underlying 133).isSome = true := by kernel_rfl
@[go_sem] theorem t133_ze : zeroT Tryz.prog 133 = some [.sl none 0] := by kernel_rfl
@[go_sem] theorem t133_by : Tryz.prog.bytesOf 133 = 24 := by kernel_rfl
@[go_sem] theorem t135_ag : aggT Tryz.prog 135 = true := by kernel_rfl
@[go_sem] theorem t135_sz : szT Tryz.prog 135 = 2 := by kernel_rfl
@[go_sem] theorem t135_in : (Tryz.prog.info? 135).isSome = true := by kernel_rfl
@[go_sem] theorem t135_un : (Tryz.prog.underlying 135).isSome = true := by kernel_rfl
@[go_sem] theorem t135_ze : zeroT Tryz.prog 135 = some [.ptr none, .sl none 0] := by kernel_rfl
@[go_sem] theorem t135_by : Tryz.prog.bytesOf 135 = 32 := by kernel_rfl
@[go_sem] theorem t135_fo : fieldsOk Tryz.prog 135 = true := by kernel_rfl
@[go_sem] theorem t137_ag : aggT Tryz.prog 137 = false := by kernel_rfl
@[go_sem] theorem t137_sz : szT Tryz.prog 137 = 1 := by kernel_rfl
@[go_sem] theorem t137_in : (Tryz.prog.info? 137).isSome = true := by kernel_rfl
@[go_sem] theorem t137_un : (Tryz.prog.underlying 137).isSome = true := by kernel_rfl
@[go_sem] theorem t137_ze : zeroT Tryz.prog 137 = some [.nili] := by kernel_rfl
@[go_sem] theorem t137_by : Tryz.prog.bytesOf 137 = 16 := by kernel_rfl
@[go_sem] theorem t159_ag : aggT Tryz.prog 159 = true := by kernel_rfl
@[go_sem] theorem t159_sz : szT Tryz.prog 159 = 5 := by kernel_rfl
@[go_sem] theorem t159_in : (Tryz.prog.info? 159).isSome = true := by kernel_rfl
@[go_sem] theorem t159_un : (Tryz.prog.underlying 159).isSome = true := by kernel_rfl
@[go_sem] theorem t159_ze : zeroT Tryz.prog 159 = some [.int .i64 0, .str ⟨#[]⟩, .int .i64 0, .int .i64 0, .int .i64 0] := by kernel_rfl
@[go_sem] theorem t159_by : Tryz.prog.bytesOf 159 = 48 := by kernel_rfl
@[go_sem] theorem t159_fo : fieldsOk Tryz.prog 159 = true := by kernel_rfl
@[go_sem] theorem t161_ag : aggT Tryz.prog 161 = true := by kernel_rfl
@[go_sem] theorem t161_sz : szT Tryz.prog 161 = 7 := by kernel_rfl
@[go_sem] theorem t161_in : (Tryz.prog.info? 161).isSome = true := by kernel_rfl
@[go_sem] theorem t161_un : (Tryz.prog.underlying 161).isSome = true := by kernel_rfl
@[go_sem] theorem t161_ze : zeroT Tryz.prog 161 = some [.str ⟨#[]⟩, .int .i64 0, .int .i64 0, .str ⟨#[]⟩, .int .i64 0, .int .i64 0, .int .i64 0] := by kernel_rfl
@[go_sem] theorem t161_by : Tryz.prog.bytesOf 161 = 72 := by kernel_rfl
@[go_sem] theorem t161_fo : fieldsOk Tryz.prog 161 = true := by kernel_rfl
@[go_sem] theorem t212_ag : aggT Tryz.prog 212 = false := by kernel_rfl
@[go_sem] theorem t212_sz : szT Tryz.prog 212 = 1 := by kernel_rfl
@[go_sem] theorem t212_in : (Tryz.prog.info? 212).isSome = true := by kernel_rfl
@[go_sem] theorem t212_un : (Tryz.prog.underlying 212).isSome = true := by kernel_rfl
@[go_sem] theorem t212_ze : zeroT Tryz.prog 212 = some [.map none] := by kernel_rfl
@[go_sem] theorem t212_by : Tryz.prog.bytesOf 212 = 8 := by kernel_rfl
@[go_sem] theorem t228_ag : aggT Tryz.prog 228 = false := by kernel_rfl
@[go_sem] theorem t228_sz : szT Tryz.prog 228 = 1 := by kernel_rfl
@[go_sem] theorem t228_in : (Tryz.prog.info? 228).isSome = true := by kernel_rfl
@[go_sem] theorem t228_un : (Tryz.prog.underlying 228).isSome = true := by kernel_rfl
@[go_sem] theorem t228_ze : zeroT Tryz.prog 228 = some [.sl none 0] := by kernel_rfl
@[go_sem] theorem t228_by : Tryz.prog.bytesOf 228 = 24 := by kernel_rfl
@[go_sem] theorem t229_ag : aggT Tryz.prog 229 = false := by kernel_rfl
@[go_sem] theorem t229_sz : szT Tryz.prog 229 = 1 := by kernel_rfl
@[go_sem] theorem t229_in : (Tryz.prog.info? 229).isSome = true := by kernel_rfl
@[go_sem] theorem t229_un : (Tryz.prog.underlying 229).isSome = true := by kernel_rfl
@[go_sem] theorem t229_ze : zeroT Tryz.prog 229 = some [.ptr none] := by kernel_rfl
@[go_sem] theorem t229_by : Tryz.prog.bytesOf 229 = 8 := by kernel_rfl
@[go_sem] theorem t234_ag : aggT Tryz.prog 234 = true := by kernel_rfl
@[go_sem] theorem t234_sz : szT Tryz.prog 234 = 2 := by kernel_rfl
@[go_sem] theorem t234_in : (Tryz.prog.info? 234).isSome = true := by kernel_rfl
@[go_sem] theorem t234_un : (Tryz.prog.underlying 234).isSome = true := by kernel_rfl
@[go_sem] theorem t234_ze : zeroT Tryz.prog 234 = some [.int .i64 0, .int .i64 0] := by kernel_rfl
@[go_sem] theorem t234_by : Tryz.prog.bytesOf 234 = 16 := by kernel_rfl
@[go_sem] theorem t234_fo : fieldsOk Tryz.prog 234 = true := by kernel_rfl
@[go_sem] theorem t236_ag : aggT Tryz.prog 236 = false := by kernel_rfl
@[go_sem] theorem t236_sz : szT Tryz.prog 236 = 1 := by kernel_rfl
@[go_sem] theorem t236_in : (Tryz.prog.info? 236).isSome = true := by kernel_rfl
@[go_sem] theorem t236_un : (Tryz.prog.underlying 236).isSome = true := by kernel_rfl
@[go_sem] theorem t236_ze : zeroT Tryz.prog 236 = some [.nilf] := by kernel_rfl
@[go_sem] theorem t236_by : Tryz.prog.bytesOf 236 = 8 := by kernel_rfl
@[go_sem] theorem t245_ag : aggT Tryz.prog 245 = false := by kernel_rfl
@[go_sem] theorem t245_sz : szT Tryz.prog 245 = 1 := by kernel_rfl
@[go_sem] theorem t245_in : (Tryz.prog.info? 245).isSome = true := by kernel_rfl
@[go_sem] theorem t245_un : (Tryz.prog.underlying 245).isSome = true := by kernel_rfl
@[go_sem] theorem t245_ze : zeroT Tryz.prog 245 = some [.int .u64 0] := by kernel_rfl
@[go_sem] theorem t245_by : Tryz.prog.bytesOf 245 = 8 := by kernel_rfl
@[go_sem] theorem t275_ag : aggT Tryz.prog 275 = true := by kernel_rfl
@[go_sem] theorem t275_sz : szT Tryz.prog 275 = 2 := by kernel_rfl
@[go_sem] theorem t275_in : (Tryz.prog.info? 275).isSome = true := by kernel_rfl
@[go_sem] theorem t275_un : (Tryz.prog.underlying 275).isSome = true := by kernel_rfl
@[go_sem] theorem t275_ze : zeroT Tryz.prog 275 = some [.str ⟨#[]⟩, .int .i64 0] := by kernel_rfl
@[go_sem] theorem t275_by : Tryz.prog.bytesOf 275 = 24 := by kernel_rfl
@[go_sem] theorem t275_fo : fieldsOk Tryz.prog 275 = true := by kernel_rfl
@[go_sem] theorem t290_ag : aggT Tryz.prog 290 = true := by kernel_rfl
@[go_sem] theorem t290_sz : szT Tryz.prog 290 = 3 := by kernel_rfl
@[go_sem] theorem t290_in : (Tryz.prog.info? 290).isSome = true := by kernel_rfl
@[go_sem] theorem t290_un : (Tryz.prog.underlying 290).isSome = true := by kernel_rfl
@[go_sem] theorem t290_ze : zeroT Tryz.prog 290 = some [.int .i64 0, .int .i64 0, .str ⟨#[]⟩] := by kernel_rfl
@[go_sem] theorem t290_by : Tryz.prog.bytesOf 290 = 32 := by kernel_rfl
@[go_sem] theorem t290_fo : fieldsOk Tryz.prog 290 = true := by kernel_rfl
@[go_sem] theorem t292_ag : aggT Tryz.prog 292 = true := by kernel_rfl
@[go_sem] theorem t292_sz : szT Tryz.prog 292 = 7 := by kernel_rfl
@[go_sem] theorem t292_in : (Tryz.prog.info? 292).isSome = true := by kernel_rfl
@[go_sem] theorem t292_un : (Tryz.prog.underlying 292).isSome = true := by kernel_rfl
@[go_sem] theorem t292_ze : zeroT Tryz.prog 292 = some [.str ⟨#[]⟩, .int .i64 0, .int .i64 0, .str ⟨#[]⟩, .int .i64 0, .int .i64 0, .int .i64 0] := by kernel_rfl
@[go_sem] theorem t292_by : Tryz.prog.bytesOf 292 = 72 := by kernel_rfl
@[go_sem] theorem t292_fo : fieldsOk Tryz.prog 292 = true := by kernel_rfl
@[go_sem] theorem t296_ag : aggT Tryz.prog 296 = true := by kernel_rfl
@[go_sem] theorem t296_sz : szT Tryz.prog 296 = 2 := by kernel_rfl
@[go_sem] theorem t296_in : (Tryz.prog.info? 296).isSome = true := by kernel_rfl
@[go_sem] theorem t296_un : (Tryz.prog.underlying 296).isSome = true := by kernel_rfl
@[go_sem] theorem t296_ze : zeroT Tryz.prog 296 = some [.str ⟨#[]⟩, .sl none 0] := by kernel_rfl
@[go_sem] theorem t296_by : Tryz.prog.bytesOf 296 = 40 := by kernel_rfl
@[go_sem] theorem t296_fo : fieldsOk Tryz.prog 296 = true := by kernel_rfl
@[go_sem] theorem t297_ag : aggT Tryz.prog 297 = false := by kernel_rfl
@[go_sem] theorem t297_sz : szT Tryz.prog 297 = 1 := by kernel_rfl
@[go_sem] theorem t297_in : (Tryz.prog.info? 297).isSome = true := by kernel_rfl
@[go_sem] theorem t297_un : (Tryz.prog.underlying 297).isSome = true := by kernel_rfl
@[go_sem] theorem t297_ze : zeroT Tryz.prog 297 = some [.sl none 0] := by kernel_rfl
@[go_sem] theorem t297_by : Tryz.prog.bytesOf 297 = 24 := by kernel_rfl
@[go_sem] theorem t299_ag : aggT Tryz.prog 299 = true := by kernel_rfl
@[go_sem] theorem t299_sz : szT Tryz.prog 299 = 5 := by kernel_rfl
@[go_sem] theorem t299_in : (Tryz.prog.info? 299).isSome = true := by kernel_rfl
@[go_sem] theorem t299_un : (Tryz.prog.underlying 299).isSome = true := by kernel_rfl
@[go_sem] theorem t299_ze : zeroT Tryz.prog 299 = some [.str ⟨#[]⟩, .int .i64 0, .str ⟨#[]⟩, .sl none 0, .bool false] := by kernel_rfl
@[go_sem] theorem t299_by : Tryz.prog.bytesOf 299 = 72 := by kernel_rfl
@[go_sem] theorem t299_fo : fieldsOk Tryz.prog 299 = true := by kernel_rfl
@[go_sem] theorem t340_ag : aggT Tryz.prog 340 = true := by kernel_rfl
@[go_sem] theorem t340_sz : szT Tryz.prog 340 = 3 := by kernel_rfl
@[go_sem] theorem t340_in : (Tryz.prog.info? 340).isSome = true := by kernel_rfl
@[go_sem] theorem t340_un : (Tryz.prog.underlying 340).isSome = true := by kernel_rfl
@[go_sem] theorem t340_ze : zeroT Tryz.prog 340 = some [.str ⟨#[]⟩, .str ⟨#[]⟩, .nili] := by kernel_rfl
@[go_sem] theorem t340_by : Tryz.prog.bytesOf 340 = 48 := by kernel_rfl
@[go_sem] theorem t340_fo : fieldsOk Tryz.prog 340 = true := by kernel_rfl
@[go_sem] theorem t354_ag : aggT Tryz.prog 354 = false := by kernel_rfl
@[go_sem] theorem t354_sz : szT Tryz.prog 354 = 1 := by kernel_rfl
@[go_sem] theorem t354_in : (Tryz.prog.info? 354).isSome = true := by kernel_rfl
@[go_sem] theorem t354_un : (Tryz.prog.underlying 354).isSome = true := by kernel_rfl
@[go_sem] theorem t354_ze : zeroT Tryz.prog 354 = some [.int .u64 0] := by kernel_rfl
@[go_sem] theorem t354_by : Tryz.prog.bytesOf 354 = 8 := by kernel_rfl
@[go_sem] theorem t368_ag : aggT Tryz.prog 368 = true := by kernel_rfl
@[go_sem] theorem t368_sz : szT Tryz.prog 368 = 1 := by kernel_rfl
@[go_sem] theorem t368_in : (Tryz.prog.info? 368).isSome = true := by kernel_rfl
@[go_sem] theorem t368_un : (Tryz.prog.underlying 368).isSome = true := by kernel_rfl
@[go_sem] theorem t368_ze : zeroT Tryz.prog 368 = some [.str ⟨#[]⟩] := by kernel_rfl
@[go_sem] theorem t368_by : Tryz.prog.bytesOf 368 = 16 := by kernel_rfl
@[go_sem] theorem t368_fo : fieldsOk Tryz.prog 368 = true := by kernel_rfl
@[go_sem] theorem t372_ag : aggT Tryz.prog 372 = true := by kernel_rfl
@[go_sem] theorem t372_sz : szT Tryz.prog 372 = 2 := by kernel_rfl
@[go_sem] theorem t372_in : (Tryz.prog.info? 372).isSome = true := by kernel_rfl
@[go_sem] theorem t372_un : (Tryz.prog.underlying 372).isSome = true := by kernel_rfl
@[go_sem] theorem t372_ze : zeroT Tryz.prog 372 = some [.str ⟨#[]⟩, .int .i64 0] := by kernel_rfl
@[go_sem] theorem t372_by : Tryz.prog.bytesOf 372 = 24 := by kernel_rfl
@[go_sem] theorem t372_fo : fieldsOk Tryz.prog 372 = true := by kernel_rfl
@[go_sem] theorem t389_ag : aggT Tryz.prog 389 = true := by kernel_rfl
@[go_sem] theorem t389_sz : szT Tryz.prog 389 = 2 := by kernel_rfl
@[go_sem] theorem t389_in : (Tryz.prog.info? 389).isSome = true := by kernel_rfl
@[go_sem] theorem t389_un : (Tryz.prog.underlying 389).isSome = true := by kernel_rfl
@[go_sem] theorem t389_ze : zeroT Tryz.prog 389 = some [.int .u8 0, .int .u8 0] := by kernel_rfl
@[go_sem] theorem t389_by : Tryz.prog.bytesOf 389 = 2 := by kernel_rfl
@[go_sem] theorem t389_fo : fieldsOk Tryz.prog 389 = true := by kernel_rfl
@[go_sem] theorem t25_f0 : fieldT Tryz.prog 25 0 = some (0, 1) := by kernel_rfl
@[go_sem] theorem t25_f1 : fieldT Tryz.prog 25 1 = some (1, 1) := by kernel_rfl
@[go_sem] theorem t39_f0 : fieldT Tryz.prog 39 0 = some (0, 1) := by kernel_rfl
@[go_sem] theorem t39_f1 : fieldT Tryz.prog 39 1 = some (1, 1) := by kernel_rfl
@[go_sem] theorem t39_f2 : fieldT Tryz.prog 39 2 = some (2, 1) := by kernel_rfl
@[go_sem] theorem t39_f3 : fieldT Tryz.prog 39 3 = some (3, 1) := by kernel_rfl
@[go_sem] theorem t39_f4 : fieldT Tryz.prog 39 4 = some (4, 1) := by kernel_rfl
@[go_sem] theorem t39_f5 : fieldT Tryz.prog 39 5 = some (5, 1) := by kernel_rfl
@[go_sem] theorem t50_f0 : fieldT Tryz.prog 50 0 = some (0, 1) := by kernel_rfl
@[go_sem] theorem t50_f1 : fieldT Tryz.prog 50 1 = some (1, 1) := by kernel_rfl
@[go_sem] theorem t56_f0 : fieldT Tryz.prog 56 0 = some (0, 1) := by kernel_rfl
@[go_sem] theorem t56_f1 : fieldT Tryz.prog 56 1 = some (1, 1) := by kernel_rfl
@[go_sem] theorem t60_f0 : fieldT Tryz.prog 60 0 = some (0, 1) := by kernel_rfl
@[go_sem] theorem t60_f1 : fieldT Tryz.prog 60 1 = some (1, 1) := by kernel_rfl
@[go_sem] theorem t60_f2 : fieldT Tryz.prog 60 2 = some (2, 1) := by kernel_rfl
@[go_sem] theorem t62_f0 : fieldT Tryz.prog 62 0 = some (0, 1) := by kernel_rfl
@[go_sem] theorem t62_f1 : fieldT Tryz.prog 62 1 = some (1, 1) := by kernel_rfl
@[go_sem] theorem t90_f0 : fieldT Tryz.prog 90 0 = some (0, 1) := by kernel_rfl
@[go_sem] theorem t90_f1 : fieldT Tryz.prog 90 1 = some (1, 1) := by kernel_rfl
@[go_sem] theorem t115_f0 : fieldT Tryz.prog 115 0 = some (0, 1) := by kernel_rfl
@[go_sem] theorem t115_f1 : fieldT Tryz.prog 115 1 = some (1, 1) := by kernel_rfl
@[go_sem] theorem t115_f2 : fieldT Tryz.prog 115 2 = some (2, 2) := by kernel_rfl
@[go_sem] theorem t115_f3 : fieldT Tryz.prog 115 3 = some (4, 1) := by kernel_rfl
@[go_sem] theorem t115_f4 : fieldT Tryz.prog 115 4 = some (5, 1) := by kernel_rfl
@[go_sem] theorem t125_f0 : fieldT Tryz.prog 125 0 = some (0, 1) := by kernel_rfl
@[go_sem] theorem t125_f1 : fieldT Tryz.prog 125 1 = some (1, 1) := by kernel_rfl
@[go_sem] theorem t125_f2 : fieldT Tryz.prog 125 2 = some (2, 1) := by kernel_rfl
@[go_sem] theorem t125_f3 : fieldT Tryz.prog 125 3 = some (3, 1) := by kernel_rfl
@[go_sem] theorem t125_f4 : fieldT Tryz.prog 125 4 = some (4, 3) := by kernel_rfl
@[go_sem] theorem t125_f5 : fieldT Tryz.prog 125 5 = some (7, 1) := by kernel_rfl
@[go_sem] theorem t125_f6 : fieldT Tryz.prog 125 6 = some (8, 2) := by kernel_rfl
@[go_sem] theorem t125_f7 : fieldT Tryz.prog 125 7 = some (10, 1) := by kernel_rfl
@[go_sem] theorem t135_f0 : fieldT Tryz.prog 135 0 = some (0, 1) := by kernel_rfl
@[go_sem] theorem t135_f1 : fieldT Tryz.prog 135 1 = some (1, 1) := by kernel_rfl
@[go_sem] theorem t159_f0 : fieldT Tryz.prog 159 0 = some (0, 1) := by kernel_rfl
@[go_sem] theorem t159_f1 : fieldT Tryz.prog 159 1 = some (1, 1) := by kernel_rfl
@[go_sem] theorem t159_f2 : fieldT Tryz.prog 159 2 = some (2, 3) := by kernel_rfl
@[go_sem] theorem t161_f0 : fieldT Tryz.prog 161 0 = some (0, 1) := by kernel_rfl
@[go_sem] theorem t161_f1 : fieldT Tryz.prog 161 1 = some (1, 1) := by kernel_rfl
@[go_sem] theorem t161_f2 : fieldT Tryz.prog 161 2 = some (2, 5) := by kernel_rfl
@[go_sem] theorem t234_f0 : fieldT Tryz.prog 234 0 = some (0, 1) := by kernel_rfl
@[go_sem] theorem t234_f1 : fieldT Tryz.prog 234 1 = some (1, 1) := by kernel_rfl
@[go_sem] theorem t275_f0 : fieldT Tryz.prog 275 0 = some (0, 1) := by kernel_rfl
@[go_sem] theorem t275_f1 : fieldT Tryz.prog 275 1 = some (1, 1) := by kernel_rfl
@[go_sem] theorem t290_f0 : fieldT Tryz.prog 290 0 = some (0, 1) := by kernel_rfl
@[go_sem] theorem t290_f1 : fieldT Tryz.prog 290 1 = some (1, 1) := by kernel_rfl
@[go_sem] theorem t290_f2 : fieldT Tryz.prog 290 2 = some (2, 1) := by kernel_rfl
@[go_sem] theorem t292_f0 : fieldT Tryz.prog 292 0 = some (0, 1) := by kernel_rfl
@[go_sem] theorem t292_f1 : fieldT Tryz.prog 292 1 = some (1, 3) := by kernel_rfl
@[go_sem] theorem t292_f2 : fieldT Tryz.prog 292 2 = some (4, 1) := by kernel_rfl
@[go_sem] theorem t292_f3 : fieldT Tryz.prog 292 3 = some (5, 1) := by kernel_rfl
@[go_sem] theorem t292_f4 : fieldT Tryz.prog 292 4 = some (6, 1) := by kernel_rfl
@[go_sem] theorem t296_f0 : fieldT Tryz.prog 296 0 = some (0, 1) := by kernel_rfl
@[go_sem] theorem t296_f1 : fieldT Tryz.prog 296 1 = some (1, 1) := by kernel_rfl
@[go_sem] theorem t299_f0 : fieldT Tryz.prog 299 0 = some (0, 1) := by kernel_rfl
@[go_sem] theorem t299_f1 : fieldT Tryz.prog 299 1 = some (1, 1) := by kernel_rfl
@[go_sem] theorem t299_f2 : fieldT Tryz.prog 299 2 = some (2, 1) := by kernel_rfl
@[go_sem] theorem t299_f3 : fieldT Tryz.prog 299 3 = some (3, 1) := by kernel_rfl
@[go_sem] theorem t299_f4 : fieldT Tryz.prog 299 4 = some (4, 1) := by kernel_rfl
@[go_sem] theorem t340_f0 : fieldT Tryz.prog 340 0 = some (0, 1) := by kernel_rfl
@[go_sem] theorem t340_f1 : fieldT Tryz.prog 340 1 = some (1, 1) := by kernel_rfl
@[go_sem] theorem t340_f2 : fieldT Tryz.prog 340 2 = some (2, 1) := by kernel_rfl
@[go_sem] theorem t368_f0 : fieldT Tryz.prog 368 0 = some (0, 1) := by kernel_rfl
@[go_sem] theorem t372_f0 : fieldT Tryz.prog 372 0 = some (0, 1) := by kernel_rfl
@[go_sem] theorem t372_f1 : fieldT Tryz.prog 372 1 = some (1, 1) := by kernel_rfl
@[go_sem] theorem t389_f0 : fieldT Tryz.prog 389 0 = some (0, 1) := by kernel_rfl
@[go_sem] theorem t389_f1 : fieldT Tryz.prog 389 1 = some (1, 1) := by kernel_rfl
@[go_sem] theorem t9_st : strT Tryz.prog 9 = true := by kernel_rfl
@[go_sem] theorem t9_el : elemT Tryz.prog 9 = none := by kernel_rfl
@[go_sem] theorem t9_us : Tryz.prog.underlying 9 = some .string := by kernel_rfl
@[go_sem] theorem t22_el : elemT Tryz.prog 22 = some 3 := by kernel_rfl
@[go_sem] theorem t22_st : strT Tryz.prog 22 = false := by kernel_rfl
@[go_sem] theorem t27_el : elemT Tryz.prog 27 = some 39 := by kernel_rfl
@[go_sem] theorem t27_st : strT Tryz.prog 27 = false := by kernel_rfl
@[go_sem] theorem t42_el : elemT Tryz.prog 42 = some 50 := by kernel_rfl
@[go_sem] theorem t42_st : strT Tryz.prog 42 = false := by kernel_rfl
@[go_sem] theorem t51_el : elemT Tryz.prog 51 = some 60 := by kernel_rfl
@[go_sem] theorem t51_st : strT Tryz.prog 51 = false := by kernel_rfl
@[go_sem] theorem t63_el : elemT Tryz.prog 63 = some 62 := by kernel_rfl
@[go_sem] theorem t63_st : strT Tryz.prog 63 = false := by kernel_rfl
@[go_sem] theorem t70_el : elemT Tryz.prog 70 = some 90 := by kernel_rfl
@[go_sem] theorem t70_st : strT Tryz.prog 70 = false := by kernel_rfl
@[go_sem] theorem t72_el : elemT Tryz.prog 72 = some 115 := by kernel_rfl
@[go_sem] theorem t72_st : strT Tryz.prog 72 = false := by kernel_rfl
@[go_sem] theorem t82_el : elemT Tryz.prog 82 = some 27 := by kernel_rfl
@[go_sem] theorem t82_st : strT Tryz.prog 82 = false := by kernel_rfl
@[go_sem] theorem t116_el : elemT Tryz.prog 116 = some 125 := by kernel_rfl
@[go_sem] theorem t116_st : strT Tryz.prog 116 = false := by kernel_rfl
@[go_sem] theorem t120_el : elemT Tryz.prog 120 = some 51 := by kernel_rfl
@[go_sem] theorem t120_st : strT Tryz.prog 120 = false := by kernel_rfl
@[go_sem] theorem t133_el : elemT Tryz.prog 133 = some 5 := by kernel_rfl
@[go_sem] theorem t133_st : strT Tryz.prog 133 = false := by kernel_rfl
@[go_sem] theorem t146_el : elemT Tryz.prog 146 = some 9 := by kernel_rfl
@[go_sem] theorem t146_st : strT Tryz.prog 146 = false := by kernel_rfl
@[go_sem] theorem t162_el : elemT Tryz.prog 162 = some 161 := by kernel_rfl
@[go_sem] theorem t162_st : strT Tryz.prog 162 = false := by kernel_rfl
@[go_sem] theorem t164_el : elemT Tryz.prog 164 = some 30 := by kernel_rfl
@[go_sem] theorem t164_st : strT Tryz.prog 164 = false := by kernel_rfl
@[go_sem] theorem t228_el : elemT Tryz.prog 228 = some 296 := by kernel_rfl
@[go_sem] theorem t228_st : strT Tryz.prog 228 = false := by kernel_rfl
@[go_sem] theorem t269_el : elemT Tryz.prog 269 = some 116 := by kernel_rfl
@[go_sem] theorem t269_st : strT Tryz.prog 269 = false := by kernel_rfl
@[go_sem] theorem t297_el : elemT Tryz.prog 297 = some 229 := by kernel_rfl
@[go_sem] theorem t297_st : strT Tryz.prog 297 = false := by kernel_rfl
@[go_sem] theorem t2_un : (Tryz.prog.underlying 2).isSome = true := by kernel_rfl
@[go_sem] theorem t2_ik : intK Tryz.prog 2 = some .i64 := by kernel_rfl
@[go_sem] theorem t3_ik : intK Tryz.prog 3 = some .i64 := by kernel_rfl
@[go_sem] theorem t5_ik : intK Tryz.prog 5 = some .u8 := by kernel_rfl
@[go_sem] theorem t9_ik : intK Tryz.prog 9 = none := by kernel_rfl
@[go_sem] theorem t21_un : (Tryz.prog.underlying 21).isSome = true := by kernel_rfl
@[go_sem] theorem t21_ik : intK Tryz.prog 21 = some .i32 := by kernel_rfl
@[go_sem] theorem t21_st : strT Tryz.prog 21 = false := by kernel_rfl
@[go_sem] theorem t132_ik : intK Tryz.prog 132 = none := by kernel_rfl
@[go_sem] theorem t133_ik : intK Tryz.prog 133 = none := by kernel_rfl
@[go_sem] theorem t245_ik : intK Tryz.prog 245 = some .u64 := by kernel_rfl
@[go_sem] theorem t257_un : (Tryz.prog.underlying 257).isSome = true := by kernel_rfl
@[go_sem] theorem t257_ik : intK Tryz.prog 257 = some .u64 := by kernel_rfl
@[go_sem] theorem t276_un : (Tryz.prog.underlying 276).isSome = true := by kernel_rfl
@[go_sem] theorem t276_ik : intK Tryz.prog 276 = none := by kernel_rfl
@[go_sem] theorem t322_un : (Tryz.prog.underlying 322).isSome = true := by kernel_rfl
@[go_sem] theorem t322_ik : intK Tryz.prog 322 = some .u32 := by kernel_rfl
@[go_sem] theorem t354_ik : intK Tryz.prog 354 = some .u64 := by kernel_rfl
@[go_sem] theorem t2_bt : bytesT Tryz.prog 2 = false := by kernel_rfl
@[go_sem] theorem t3_bt : bytesT Tryz.prog 3 = false := by kernel_rfl
@[go_sem] theorem t5_bt : bytesT Tryz.prog 5 = false := by kernel_rfl
@[go_sem] theorem t9_bt : bytesT Tryz.prog 9 = false := by kernel_rfl
@[go_sem] theorem t21_bt : bytesT Tryz.prog 21 = false := by kernel_rfl
@[go_sem] theorem t132_bt : bytesT Tryz.prog 132 = false := by kernel_rfl
@[go_sem] theorem t133_bt : bytesT Tryz.prog 133 = true := by kernel_rfl
@[go_sem] theorem t245_bt : bytesT Tryz.prog 245 = false := by kernel_rfl
@[go_sem] theorem t257_bt : bytesT Tryz.prog 257 = false := by kernel_rfl
@[go_sem] theorem t276_bt : bytesT Tryz.prog 276 = false := by kernel_rfl
@[go_sem] theorem t322_bt : bytesT Tryz.prog 322 = false := by kernel_rfl
@[go_sem] theorem t354_bt : bytesT Tryz.prog 354 = false := by kernel_rfl
@[go_sem] theorem t9_co : conT Tryz.prog 9 = true := by kernel_rfl
@[go_sem] theorem t282_co : conT Tryz.prog 282 = true := by kernel_rfl
@[go_sem] theorem t285_co : conT Tryz.prog 285 = true := by kernel_rfl
@[go_sem] theorem t366_co : conT Tryz.prog 366 = true := by kernel_rfl
@[go_sem] theorem t234_k1 : fieldK Tryz.prog 234 1 = some (1, 1, false) := by kernel_rfl
@[go_sem] theorem t4_kd : kindT Tryz.prog 4 = 1 := by kernel_rfl
@[go_sem] theorem t27_kd : kindT Tryz.prog 27 = 3 := by kernel_rfl
@[go_sem] theorem t39_fk : fieldsK Tryz.prog 39 = some [(0, 1), (1, 1), (2, 1), (3, 1), (4, 1), (5, 1)] := by kernel_rfl
@[go_sem] theorem t51_kd : kindT Tryz.prog 51 = 3 := by kernel_rfl
@[go_sem] theorem t60_fk : fieldsK Tryz.prog 60 = some [(0, 1), (1, 1), (2, 1)] := by kernel_rfl
@[go_sem] theorem t70_kd : kindT Tryz.prog 70 = 3 := by kernel_rfl
@[go_sem] theorem t90_fk : fieldsK Tryz.prog 90 = some [(0, 1), (1, 1)] := by kernel_rfl
@[go_sem] theorem t132_kd : kindT Tryz.prog 132 = 2 := by kernel_rfl
@[go_sem] theorem t137_kd : kindT Tryz.prog 137 = 6 := by kernel_rfl
@[go_sem] theorem f2_en : entersB Tryz.prog 2 = true := by kernel_rfl
@[go_sem] theorem f2_rs : Tryz.f2.results.toList = [] := by kernel_rfl
@[go_sem] theorem f2_nt : Tryz.f2.ntmps = 1 := by kernel_rfl
@[go_sem] theorem f3_en : entersB Tryz.prog 3 = true := by kernel_rfl
@[go_sem] theorem f3_rs : Tryz.f3.results.toList = [.tmp 2] := by kernel_rfl
@[go_sem] theorem f3_nt : Tryz.f3.ntmps = 81 := by kernel_rfl
@[go_sem] theorem f4_en : entersB Tryz.prog 4 = true := by kernel_rfl
@[go_sem] theorem f4_rs : Tryz.f4.results.toList = [.tmp 2] := by kernel_rfl
@[go_sem] theorem f4_nt : Tryz.f4.ntmps = 73 := by kernel_rfl
@[go_sem] theorem f5_en : entersB Tryz.prog 5 = true := by kernel_rfl
@[go_sem] theorem f5_rs : Tryz.f5.results.toList = [.tmp 2] := by kernel_rfl
@[go_sem] theorem f5_nt : Tryz.f5.ntmps = 113 := by kernel_rfl
@[go_sem] theorem f6_en : entersB Tryz.prog 6 = true := by kernel_rfl
@[go_sem] theorem f6_rs : Tryz.f6.results.toList = [.tmp 2] := by kernel_rfl
@[go_sem] theorem f6_nt : Tryz.f6.ntmps = 156 := by kernel_rfl
@[go_sem] theorem f7_en : entersB Tryz.prog 7 = true := by kernel_rfl
@[go_sem] theorem f7_rs : Tryz.f7.results.toList = [.tmp 2] := by kernel_rfl
@[go_sem] theorem f7_nt : Tryz.f7.ntmps = 126 := by kernel_rfl
@[go_sem] theorem f8_en : entersB Tryz.prog 8 = true := by kernel_rfl
@[go_sem] theorem f8_rs : Tryz.f8.results.toList = [.tmp 2] := by kernel_rfl
@[go_sem] theorem f8_nt : Tryz.f8.ntmps = 114 := by kernel_rfl
@[go_sem] theorem f9_en : entersB Tryz.prog 9 = true := by kernel_rfl
@[go_sem] theorem f9_rs : Tryz.f9.results.toList = [.tmp 2] := by kernel_rfl
@[go_sem] theorem f9_nt : Tryz.f9.ntmps = 146 := by kernel_rfl
@[go_sem] theorem f10_en : entersB Tryz.prog 10 = true := by kernel_rfl
@[go_sem] theorem f10_rs : Tryz.f10.results.toList = [.tmp 2] := by kernel_rfl
@[go_sem] theorem f10_nt : Tryz.f10.ntmps = 115 := by kernel_rfl
@[go_sem] theorem f11_en : entersB Tryz.prog 11 = true := by kernel_rfl
@[go_sem] theorem f11_rs : Tryz.f11.results.toList = [.tmp 2] := by kernel_rfl
@[go_sem] theorem f11_nt : Tryz.f11.ntmps = 113 := by kernel_rfl
@[go_sem] theorem f12_en : entersB Tryz.prog 12 = true := by kernel_rfl
@[go_sem] theorem f12_rs : Tryz.f12.results.toList = [.tmp 2] := by kernel_rfl
@[go_sem] theorem f12_nt : Tryz.f12.ntmps = 82 := by kernel_rfl
@[go_sem] theorem f13_en : entersB Tryz.prog 13 = true := by kernel_rfl
@[go_sem] theorem f13_rs : Tryz.f13.results.toList = [.tmp 2] := by kernel_rfl
@[go_sem] theorem f13_nt : Tryz.f13.ntmps = 6 := by kernel_rfl
@[go_sem] theorem f14_en : entersB Tryz.prog 14 = true := by kernel_rfl
@[go_sem] theorem f14_rs : Tryz.f14.results.toList = [.tmp 4] := by kernel_rfl
@[go_sem] theorem f14_nt : Tryz.f14.ntmps = 81 := by kernel_rfl
@[go_sem] theorem f15_en : entersB Tryz.prog 15 = true := by kernel_rfl
@[go_sem] theorem f15_rs : Tryz.f15.results.toList = [.tmp 4] := by kernel_rfl
@[go_sem] theorem f15_nt : Tryz.f15.ntmps = 30 := by kernel_rfl
@[go_sem] theorem f16_en : entersB Tryz.prog 16 = true := by kernel_rfl
@[go_sem] theorem f16_rs : Tryz.f16.results.toList = [.tmp 4, .tmp 5] := by kernel_rfl
@[go_sem] theorem f16_nt : Tryz.f16.ntmps = 55 := by kernel_rfl
@[go_sem] theorem f17_en : entersB Tryz.prog 17 = true := by kernel_rfl
@[go_sem] theorem f17_rs : Tryz.f17.results.toList = [.tmp 4] := by kernel_rfl
@[go_sem] theorem f17_nt : Tryz.f17.ntmps = 44 := by kernel_rfl
@[go_sem] theorem f18_en : entersB Tryz.prog 18 = true := by kernel_rfl
@[go_sem] theorem f18_rs : Tryz.f18.results.toList = [.tmp 2] := by kernel_rfl
@[go_sem] theorem f18_nt : Tryz.f18.ntmps = 31 := by kernel_rfl
@[go_sem] theorem f19_en : entersB Tryz.prog 19 = true := by kernel_rfl
@[go_sem] theorem f19_rs : Tryz.f19.results.toList = [.tmp 4, .tmp 5, .tmp 6] := by kernel_rfl
@[go_sem] theorem f19_nt : Tryz.f19.ntmps = 35 := by kernel_rfl
@[go_sem] theorem f20_en : entersB Tryz.prog 20 = true := by kernel_rfl
@[go_sem] theorem f20_rs : Tryz.f20.results.toList = [.tmp 4, .tmp 5, .tmp 6] := by kernel_rfl
@[go_sem] theorem f20_nt : Tryz.f20.ntmps = 36 := by kernel_rfl
@[go_sem] theorem f21_en : entersB Tryz.prog 21 = true := by kernel_rfl
@[go_sem] theorem f21_rs : Tryz.f21.results.toList = [.tmp 4] := by kernel_rfl
@[go_sem] theorem f21_nt : Tryz.f21.ntmps = 26 := by kernel_rfl
@[go_sem] theorem f22_en : entersB Tryz.prog 22 = true := by kernel_rfl
@[go_sem] theorem f22_rs : Tryz.f22.results.toList = [.tmp 0] := by kernel_rfl
@[go_sem] theorem f22_nt : Tryz.f22.ntmps = 23 := by kernel_rfl
@[go_sem] theorem f23_en : entersB Tryz.prog 23 = true := by kernel_rfl
@[go_sem] theorem f23_rs : Tryz.f23.results.toList = [.tmp 2] := by kernel_rfl
@[go_sem] theorem f23_nt : Tryz.f23.ntmps = 56 := by kernel_rfl
@[go_sem] theorem f24_en : entersB Tryz.prog 24 = true := by kernel_rfl
@[go_sem] theorem f24_rs : Tryz.f24.results.toList = [.tmp 2] := by kernel_rfl
@[go_sem] theorem f24_nt : Tryz.f24.ntmps = 66 := by kernel_rfl
@[go_sem] theorem f25_en : entersB Tryz.prog 25 = true := by kernel_rfl
@[go_sem] theorem f25_rs : Tryz.f25.results.toList = [.tmp 0] := by kernel_rfl
@[go_sem] theorem f25_nt : Tryz.f25.ntmps = 72 := by kernel_rfl
@[go_sem] theorem f26_en : entersB Tryz.prog 26 = true := by kernel_rfl
@[go_sem] theorem f26_rs : Tryz.f26.results.toList = [.tmp 6] := by kernel_rfl
@[go_sem] theorem f26_nt : Tryz.f26.ntmps = 19 := by kernel_rfl
@[go_sem] theorem f27_en : entersB Tryz.prog 27 = true := by kernel_rfl
@[go_sem] theorem f27_rs : Tryz.f27.results.toList = [.tmp 4, .tmp 5] := by kernel_rfl
@[go_sem] theorem f27_nt : Tryz.f27.ntmps = 18 := by kernel_rfl
@[go_sem] theorem f28_en : entersB Tryz.prog 28 = true := by kernel_rfl
@[go_sem] theorem f28_rs : Tryz.f28.results.toList = [.tmp 2] := by kernel_rfl
@[go_sem] theorem f28_nt : Tryz.f28.ntmps = 15 := by kernel_rfl
@[go_sem] theorem f29_en : entersB Tryz.prog 29 = true := by kernel_rfl
@[go_sem] theorem f29_rs : Tryz.f29.results.toList = [.tmp 4] := by kernel_rfl
@[go_sem] theorem f29_nt : Tryz.f29.ntmps = 39 := by kernel_rfl
@[go_sem] theorem f30_en : entersB Tryz.prog 30 = true := by kernel_rfl
@[go_sem] theorem f30_rs : Tryz.f30.results.toList = [.tmp 6, .tmp 7] := by kernel_rfl
@[go_sem] theorem f30_nt : Tryz.f30.ntmps = 65 := by kernel_rfl
@[go_sem] theorem f31_en : entersB Tryz.prog 31 = true := by kernel_rfl
@[go_sem] theorem f31_rs : Tryz.f31.results.toList = [.tmp 6, .tmp 7] := by kernel_rfl
@[go_sem] theorem f31_nt : Tryz.f31.ntmps = 85 := by kernel_rfl
@[go_sem] theorem f32_en : entersB Tryz.prog 32 = true := by kernel_rfl
@[go_sem] theorem f32_rs : Tryz.f32.results.toList = [.tmp 4] := by kernel_rfl
@[go_sem] theorem f32_nt : Tryz.f32.ntmps = 26 := by kernel_rfl
@[go_sem] theorem f33_en : entersB Tryz.prog 33 = true := by kernel_rfl
@[go_sem] theorem f33_rs : Tryz.f33.results.toList = [.tmp 6, .tmp 7] := by kernel_rfl
@[go_sem] theorem f33_nt : Tryz.f33.ntmps = 49 := by kernel_rfl
@[go_sem] theorem f34_en : entersB Tryz.prog 34 = true := by kernel_rfl
@[go_sem] theorem f34_rs : Tryz.f34.results.toList = [.tmp 4, .tmp 5] := by kernel_rfl
@[go_sem] theorem f34_nt : Tryz.f34.ntmps = 81 := by kernel_rfl
@[go_sem] theorem f35_en : entersB Tryz.prog 35 = true := by kernel_rfl
@[go_sem] theorem f35_rs : Tryz.f35.results.toList = [.tmp 4] := by kernel_rfl
@[go_sem] theorem f35_nt : Tryz.f35.ntmps = 9 := by kernel_rfl
@[go_sem] theorem f36_en : entersB Tryz.prog 36 = true := by kernel_rfl
@[go_sem] theorem f36_rs : Tryz.f36.results.toList = [.tmp 3] := by kernel_rfl
@[go_sem] theorem f36_nt : Tryz.f36.ntmps = 21 := by kernel_rfl
@[go_sem] theorem f37_en : entersB Tryz.prog 37 = true := by kernel_rfl
@[go_sem] theorem f37_rs : Tryz.f37.results.toList = [.tmp 2] := by kernel_rfl
@[go_sem] theorem f37_nt : Tryz.f37.ntmps = 25 := by kernel_rfl
@[go_sem] theorem f38_en : entersB Tryz.prog 38 = true := by kernel_rfl
@[go_sem] theorem f38_rs : Tryz.f38.results.toList = [.tmp 2] := by kernel_rfl
@[go_sem] theorem f38_nt : Tryz.f38.ntmps = 25 := by kernel_rfl
@[go_sem] theorem f39_en : entersB Tryz.prog 39 = true := by kernel_rfl
@[go_sem] theorem f39_rs : Tryz.f39.results.toList = [.tmp 2] := by kernel_rfl
@[go_sem] theorem f39_nt : Tryz.f39.ntmps = 37 := by kernel_rfl
@[go_sem] theorem f40_en : entersB Tryz.prog 40 = true := by kernel_rfl
@[go_sem] theorem f40_rs : Tryz.f40.results.toList = [.tmp 2] := by kernel_rfl
@[go_sem] theorem f40_nt : Tryz.f40.ntmps = 71 := by kernel_rfl
@[go_sem] theorem f41_en : entersB Tryz.prog 41 = true := by kernel_rfl
@[go_sem] theorem f41_rs : Tryz.f41.results.toList = [.tmp 2] := by kernel_rfl
@[go_sem] theorem f41_nt : Tryz.f41.ntmps = 53 := by kernel_rfl
@[go_sem] theorem f42_en : entersB Tryz.prog 42 = true := by kernel_rfl
@[go_sem] theorem f42_rs : Tryz.f42.results.toList = [.tmp 10, .tmp 11] := by kernel_rfl
@[go_sem] theorem f42_nt : Tryz.f42.ntmps = 48 := by kernel_rfl
@[go_sem] theorem f43_en : entersB Tryz.prog 43 = true := by kernel_rfl
@[go_sem] theorem f43_rs : Tryz.f43.results.toList = [.tmp 8, .tmp 9, .tmp 10] := by kernel_rfl
@[go_sem] theorem f43_nt : Tryz.f43.ntmps = 46 := by kernel_rfl
@[go_sem] theorem f44_en : entersB Tryz.prog 44 = true := by kernel_rfl
@[go_sem] theorem f44_rs : Tryz.f44.results.toList = [.tmp 4] := by kernel_rfl
@[go_sem] theorem f44_nt : Tryz.f44.ntmps = 9 := by kernel_rfl
@[go_sem] theorem f45_en : entersB Tryz.prog 45 = true := by kernel_rfl
@[go_sem] theorem f45_rs : Tryz.f45.results.toList = [.tmp 3] := by kernel_rfl
@[go_sem] theorem f45_nt : Tryz.f45.ntmps = 8 := by kernel_rfl
@[go_sem] theorem f46_en : entersB Tryz.prog 46 = true := by kernel_rfl
@[go_sem] theorem f46_rs : Tryz.f46.results.toList = [.tmp 4] := by kernel_rfl
@[go_sem] theorem f46_nt : Tryz.f46.ntmps = 9 := by kernel_rfl
@[go_sem] theorem f47_en : entersB Tryz.prog 47 = true := by kernel_rfl
@[go_sem] theorem f47_rs : Tryz.f47.results.toList = [.tmp 10, .tmp 11, .tmp 12] := by kernel_rfl
@[go_sem] theorem f47_nt : Tryz.f47.ntmps = 64 := by kernel_rfl
@[go_sem] theorem f48_en : entersB Tryz.prog 48 = true := by kernel_rfl
@[go_sem] theorem f48_rs : Tryz.f48.results.toList = [.tmp 4] := by kernel_rfl
@[go_sem] theorem f48_nt : Tryz.f48.ntmps = 9 := by kernel_rfl
@[go_sem] theorem f49_en : entersB Tryz.prog 49 = true := by kernel_rfl
@[go_sem] theorem f49_rs : Tryz.f49.results.toList = [.tmp 4, .tmp 5] := by kernel_rfl
@[go_sem] theorem f49_nt : Tryz.f49.ntmps = 18 := by kernel_rfl
@[go_sem] theorem f50_en : entersB Tryz.prog 50 = true := by kernel_rfl
@[go_sem] theorem f50_rs : Tryz.f50.results.toList = [.tmp 4] := by kernel_rfl
@[go_sem] theorem f50_nt : Tryz.f50.ntmps = 9 := by kernel_rfl
@[go_sem] theorem f51_en : entersB Tryz.prog 51 = true := by kernel_rfl
@[go_sem] theorem f51_rs : Tryz.f51.results.toList = [.tmp 4] := by kernel_rfl
@[go_sem] theorem f51_nt : Tryz.f51.ntmps = 9 := by kernel_rfl
@[go_sem] theorem f52_en : entersB Tryz.prog 52 = true := by kernel_rfl
@[go_sem] theorem f52_rs : Tryz.f52.results.toList = [.tmp 3] := by kernel_rfl
@[go_sem] theorem f52_nt : Tryz.f52.ntmps = 8 := by kernel_rfl
@[go_sem] theorem f53_en : entersB Tryz.prog 53 = true := by kernel_rfl
@[go_sem] theorem f53_rs : Tryz.f53.results.toList = [.tmp 4] := by kernel_rfl
@[go_sem] theorem f53_nt : Tryz.f53.ntmps = 9 := by kernel_rfl
@[go_sem] theorem f54_en : entersB Tryz.prog 54 = true := by kernel_rfl
@[go_sem] theorem f54_rs : Tryz.f54.results.toList = [.tmp 4] := by kernel_rfl
@[go_sem] theorem f54_nt : Tryz.f54.ntmps = 12 := by kernel_rfl
@[go_sem] theorem f55_en : entersB Tryz.prog 55 = true := by kernel_rfl
@[go_sem] theorem f55_rs : Tryz.f55.results.toList = [.tmp 6, .tmp 7] := by kernel_rfl
@[go_sem] theorem f55_nt : Tryz.f55.ntmps = 51 := by kernel_rfl
@[go_sem] theorem f56_en : entersB Tryz.prog 56 = true := by kernel_rfl
@[go_sem] theorem f56_rs : Tryz.f56.results.toList = [.tmp 6, .tmp 7] := by kernel_rfl
@[go_sem] theorem f56_nt : Tryz.f56.ntmps = 47 := by kernel_rfl
@[go_sem] theorem f57_en : entersB Tryz.prog 57 = true := by kernel_rfl
@[go_sem] theorem f57_rs : Tryz.f57.results.toList = [.tmp 6, .tmp 7, .tmp 8] := by kernel_rfl
@[go_sem] theorem f57_nt : Tryz.f57.ntmps = 42 := by kernel_rfl
@[go_sem] theorem f58_en : entersB Tryz.prog 58 = true := by kernel_rfl
@[go_sem] theorem f58_rs : Tryz.f58.results.toList = [.tmp 4] := by kernel_rfl
@[go_sem] theorem f58_nt : Tryz.f58.ntmps = 43 := by kernel_rfl
@[go_sem] theorem f59_en : entersB Tryz.prog 59 = true := by kernel_rfl
@[go_sem] theorem f59_rs : Tryz.f59.results.toList = [.tmp 4, .tmp 5] := by kernel_rfl
@[go_sem] theorem f59_nt : Tryz.f59.ntmps = 29 := by kernel_rfl
@[go_sem] theorem f60_en : entersB Tryz.prog 60 = true := by kernel_rfl
@[go_sem] theorem f60_rs : Tryz.f60.results.toList = [.tmp 2, .tmp 3] := by kernel_rfl
@[go_sem] theorem f60_nt : Tryz.f60.ntmps = 27 := by kernel_rfl
@[go_sem] theorem f61_en : entersB Tryz.prog 61 = true := by kernel_rfl
@[go_sem] theorem f61_rs : Tryz.f61.results.toList = [.tmp 2, .tmp 3, .tmp 4] := by kernel_rfl
@[go_sem] theorem f61_nt : Tryz.f61.ntmps = 27 := by kernel_rfl
@[go_sem] theorem f62_en : entersB Tryz.prog 62 = true := by kernel_rfl
@[go_sem] theorem f62_rs : Tryz.f62.results.toList = [.tmp 4, .tmp 5] := by kernel_rfl
@[go_sem] theorem f62_nt : Tryz.f62.ntmps = 16 := by kernel_rfl
@[go_sem] theorem f63_en : entersB Tryz.prog 63 = true := by kernel_rfl
@[go_sem] theorem f63_rs : Tryz.f63.results.toList = [.tmp 2] := by kernel_rfl
@[go_sem] theorem f63_nt : Tryz.f63.ntmps = 36 := by kernel_rfl
@[go_sem] theorem f64_en : entersB Tryz.prog 64 = true := by kernel_rfl
@[go_sem] theorem f64_rs : Tryz.f64.results.toList = [.tmp 2] := by kernel_rfl
@[go_sem] theorem f64_nt : Tryz.f64.ntmps = 35 := by kernel_rfl
@[go_sem] theorem f65_en : entersB Tryz.prog 65 = true := by kernel_rfl
@[go_sem] theorem f65_rs : Tryz.f65.results.toList = [.tmp 2] := by kernel_rfl
@[go_sem] theorem f65_nt : Tryz.f65.ntmps = 8 := by kernel_rfl
@[go_sem] theorem f66_en : entersB Tryz.prog 66 = true := by kernel_rfl
@[go_sem] theorem f66_rs : Tryz.f66.results.toList = [] := by kernel_rfl
@[go_sem] theorem f66_nt : Tryz.f66.ntmps = 14 := by kernel_rfl
@[go_sem] theorem f67_en : entersB Tryz.prog 67 = true := by kernel_rfl
@[go_sem] theorem f67_rs : Tryz.f67.results.toList = [] := by kernel_rfl
@[go_sem] theorem f67_nt : Tryz.f67.ntmps = 14 := by kernel_rfl
@[go_sem] theorem f68_en : entersB Tryz.prog 68 = true := by kernel_rfl
@[go_sem] theorem f68_rs : Tryz.f68.results.toList = [.tmp 6, .tmp 7, .tmp 8] := by kernel_rfl
@[go_sem] theorem f68_nt : Tryz.f68.ntmps = 79 := by kernel_rfl
@[go_sem] theorem f69_en : entersB Tryz.prog 69 = true := by kernel_rfl
@[go_sem] theorem f69_rs : Tryz.f69.results.toList = [] := by kernel_rfl
@[go_sem] theorem f69_nt : Tryz.f69.ntmps = 14 := by kernel_rfl
@[go_sem] theorem f70_en : entersB Tryz.prog 70 = true := by kernel_rfl
@[go_sem] theorem f70_rs : Tryz.f70.results.toList = [.tmp 4] := by kernel_rfl
@[go_sem] theorem f70_nt : Tryz.f70.ntmps = 26 := by kernel_rfl
@[go_sem] theorem f71_en : entersB Tryz.prog 71 = true := by kernel_rfl
@[go_sem] theorem f71_rs : Tryz.f71.results.toList = [.tmp 4] := by kernel_rfl
@[go_sem] theorem f71_nt : Tryz.f71.ntmps = 26 := by kernel_rfl
@[go_sem] theorem f72_en : entersB Tryz.prog 72 = true := by kernel_rfl
@[go_sem] theorem f72_rs : Tryz.f72.results.toList = [.tmp 4] := by kernel_rfl
@[go_sem] theorem f72_nt : Tryz.f72.ntmps = 16 := by kernel_rfl
@[go_sem] theorem f73_en : entersB Tryz.prog 73 = true := by kernel_rfl
@[go_sem] theorem f73_rs : Tryz.f73.results.toList = [.tmp 4] := by kernel_rfl
@[go_sem] theorem f73_nt : Tryz.f73.ntmps = 6 := by kernel_rfl
@[go_sem] theorem f74_en : entersB Tryz.prog 74 = true := by kernel_rfl
@[go_sem] theorem f74_rs : Tryz.f74.results.toList = [.tmp 6, .tmp 7] := by kernel_rfl
@[go_sem] theorem f74_nt : Tryz.f74.ntmps = 28 := by kernel_rfl
@[go_sem] theorem f75_en : entersB Tryz.prog 75 = true := by kernel_rfl
@[go_sem] theorem f75_rs : Tryz.f75.results.toList = [.tmp 4, .tmp 5] := by kernel_rfl
@[go_sem] theorem f75_nt : Tryz.f75.ntmps = 33 := by kernel_rfl
@[go_sem] theorem f76_en : entersB Tryz.prog 76 = true := by kernel_rfl
@[go_sem] theorem f76_rs : Tryz.f76.results.toList = [] := by kernel_rfl
@[go_sem] theorem f76_nt : Tryz.f76.ntmps = 14 := by kernel_rfl
@[go_sem] theorem f77_en : entersB Tryz.prog 77 = true := by kernel_rfl
@[go_sem] theorem f77_rs : Tryz.f77.results.toList = [.tmp 4] := by kernel_rfl
@[go_sem] theorem f77_nt : Tryz.f77.ntmps = 26 := by kernel_rfl
@[go_sem] theorem f78_en : entersB Tryz.prog 78 = true := by kernel_rfl
@[go_sem] theorem f78_rs : Tryz.f78.results.toList = [.tmp 2] := by kernel_rfl
@[go_sem] theorem f78_nt : Tryz.f78.ntmps = 6 := by kernel_rfl
@[go_sem] theorem f79_en : entersB Tryz.prog 79 = true := by kernel_rfl
@[go_sem] theorem f79_rs : Tryz.f79.results.toList = [.tmp 4] := by kernel_rfl
@[go_sem] theorem f79_nt : Tryz.f79.ntmps = 90 := by kernel_rfl
@[go_sem] theorem f80_en : entersB Tryz.prog 80 = true := by kernel_rfl
@[go_sem] theorem f80_rs : Tryz.f80.results.toList = [.tmp 4] := by kernel_rfl
@[go_sem] theorem f80_nt : Tryz.f80.ntmps = 9 := by kernel_rfl
@[go_sem] theorem f81_en : entersB Tryz.prog 81 = true := by kernel_rfl
@[go_sem] theorem f81_rs : Tryz.f81.results.toList = [.tmp 4] := by kernel_rfl
@[go_sem] theorem f81_nt : Tryz.f81.ntmps = 64 := by kernel_rfl
@[go_sem] theorem f82_en : entersB Tryz.prog 82 = true := by kernel_rfl
@[go_sem] theorem f82_rs : Tryz.f82.results.toList = [.tmp 6] := by kernel_rfl
@[go_sem] theorem f82_nt : Tryz.f82.ntmps = 22 := by kernel_rfl
@[go_sem] theorem f83_en : entersB Tryz.prog 83 = true := by kernel_rfl
@[go_sem] theorem f83_rs : Tryz.f83.results.toList = [.tmp 6] := by kernel_rfl
@[go_sem] theorem f83_nt : Tryz.f83.ntmps = 63 := by kernel_rfl
@[go_sem] theorem f84_en : entersB Tryz.prog 84 = true := by kernel_rfl
@[go_sem] theorem f84_rs : Tryz.f84.results.toList = [.tmp 4] := by kernel_rfl
@[go_sem] theorem f84_nt : Tryz.f84.ntmps = 17 := by kernel_rfl
@[go_sem] theorem f85_en : entersB Tryz.prog 85 = true := by kernel_rfl
@[go_sem] theorem f85_rs : Tryz.f85.results.toList = [.tmp 4, .tmp 5] := by kernel_rfl
@[go_sem] theorem f85_nt : Tryz.f85.ntmps = 19 := by kernel_rfl
@[go_sem] theorem f86_en : entersB Tryz.prog 86 = true := by kernel_rfl
@[go_sem] theorem f86_rs : Tryz.f86.results.toList = [.tmp 2] := by kernel_rfl
@[go_sem] theorem f86_nt : Tryz.f86.ntmps = 5 := by kernel_rfl
@[go_sem] theorem f87_en : entersB Tryz.prog 87 = true := by kernel_rfl
@[go_sem] theorem f87_rs : Tryz.f87.results.toList = [.tmp 2] := by kernel_rfl
@[go_sem] theorem f87_nt : Tryz.f87.ntmps = 8 := by kernel_rfl
@[go_sem] theorem f88_en : entersB Tryz.prog 88 = true := by kernel_rfl
@[go_sem] theorem f88_rs : Tryz.f88.results.toList = [.tmp 2] := by kernel_rfl
@[go_sem] theorem f88_nt : Tryz.f88.ntmps = 14 := by kernel_rfl
@[go_sem] theorem f89_en : entersB Tryz.prog 89 = true := by kernel_rfl
@[go_sem] theorem f89_rs : Tryz.f89.results.toList = [.tmp 4] := by kernel_rfl
@[go_sem] theorem f89_nt : Tryz.f89.ntmps = 86 := by kernel_rfl
@[go_sem] theorem f90_en : entersB Tryz.prog 90 = true := by kernel_rfl
@[go_sem] theorem f90_rs : Tryz.f90.results.toList = [.tmp 2] := by kernel_rfl
@[go_sem] theorem f90_nt : Tryz.f90.ntmps = 20 := by kernel_rfl
@[go_sem] theorem f91_en : entersB Tryz.prog 91 = true := by kernel_rfl
@[go_sem] theorem f91_rs : Tryz.f91.results.toList = [.tmp 2] := by kernel_rfl
@[go_sem] theorem f91_nt : Tryz.f91.ntmps = 11 := by kernel_rfl
@[go_sem] theorem f92_en : entersB Tryz.prog 92 = true := by kernel_rfl
@[go_sem] theorem f92_rs : Tryz.f92.results.toList = [.tmp 4, .tmp 5] := by kernel_rfl
@[go_sem] theorem f92_nt : Tryz.f92.ntmps = 39 := by kernel_rfl
@[go_sem] theorem f93_en : entersB Tryz.prog 93 = true := by kernel_rfl
@[go_sem] theorem f93_rs : Tryz.f93.results.toList = [.tmp 3] := by kernel_rfl
@[go_sem] theorem f93_nt : Tryz.f93.ntmps = 43 := by kernel_rfl
@[go_sem] theorem f94_en : entersB Tryz.prog 94 = true := by kernel_rfl
@[go_sem] theorem f94_rs : Tryz.f94.results.toList = [.tmp 4, .tmp 5] := by kernel_rfl
@[go_sem] theorem f94_nt : Tryz.f94.ntmps = 25 := by kernel_rfl
@[go_sem] theorem f95_en : entersB Tryz.prog 95 = true := by kernel_rfl
@[go_sem] theorem f95_rs : Tryz.f95.results.toList = [.tmp 4, .tmp 5] := by kernel_rfl
@[go_sem] theorem f95_nt : Tryz.f95.ntmps = 31 := by kernel_rfl
@[go_sem] theorem f96_en : entersB Tryz.prog 96 = true := by kernel_rfl
@[go_sem] theorem f96_rs : Tryz.f96.results.toList = [.tmp 4, .tmp 5] := by kernel_rfl
@[go_sem] theorem f96_nt : Tryz.f96.ntmps = 30 := by kernel_rfl
@[go_sem] theorem f97_en : entersB Tryz.prog 97 = true := by kernel_rfl
@[go_sem] theorem f97_rs : Tryz.f97.results.toList = [.tmp 3] := by kernel_rfl
@[go_sem] theorem f97_nt : Tryz.f97.ntmps = 61 := by kernel_rfl
@[go_sem] theorem f98_en : entersB Tryz.prog 98 = true := by kernel_rfl
@[go_sem] theorem f98_rs : Tryz.f98.results.toList = [.tmp 4] := by kernel_rfl
@[go_sem] theorem f98_nt : Tryz.f98.ntmps = 8 := by kernel_rfl
@[go_sem] theorem f99_en : entersB Tryz.prog 99 = true := by kernel_rfl
@[go_sem] theorem f99_rs : Tryz.f99.results.toList = [.tmp 2, .tmp 3] := by kernel_rfl
@[go_sem] theorem f99_nt : Tryz.f99.ntmps = 18 := by kernel_rfl
@[go_sem] theorem f100_en : entersB Tryz.prog 100 = true := by kernel_rfl
@[go_sem] theorem f100_rs : Tryz.f100.results.toList = [.tmp 2] := by kernel_rfl
@[go_sem] theorem f100_nt : Tryz.f100.ntmps = 5 := by kernel_rfl
@[go_sem] theorem f101_en : entersB Tryz.prog 101 = true := by kernel_rfl
@[go_sem] theorem f101_rs : Tryz.f101.results.toList = [.tmp 2, .tmp 3] := by kernel_rfl
@[go_sem] theorem f101_nt : Tryz.f101.ntmps = 8 := by kernel_rfl
@[go_sem] theorem f102_en : entersB Tryz.prog 102 = true := by kernel_rfl
@[go_sem] theorem f102_rs : Tryz.f102.results.toList = [.cell 6 60, .tmp 7] := by kernel_rfl
@[go_sem] theorem f102_nt : Tryz.f102.ntmps = 39 := by kernel_rfl
@[go_sem] theorem f103_en : entersB Tryz.prog 103 = true := by kernel_rfl
@[go_sem] theorem f103_rs : Tryz.f103.results.toList = [.tmp 4, .tmp 5] := by kernel_rfl
@[go_sem] theorem f103_nt : Tryz.f103.ntmps = 29 := by kernel_rfl
@[go_sem] theorem f104_en : entersB Tryz.prog 104 = true := by kernel_rfl
@[go_sem] theorem f104_rs : Tryz.f104.results.toList = [.tmp 2] := by kernel_rfl
@[go_sem] theorem f104_nt : Tryz.f104.ntmps = 65 := by kernel_rfl
@[go_sem] theorem f105_en : entersB Tryz.prog 105 = true := by kernel_rfl
@[go_sem] theorem f105_rs : Tryz.f105.results.toList = [.tmp 2] := by kernel_rfl
@[go_sem] theorem f105_nt : Tryz.f105.ntmps = 6 := by kernel_rfl
@[go_sem] theorem f106_en : entersB Tryz.prog 106 = true := by kernel_rfl
@[go_sem] theorem f106_rs : Tryz.f106.results.toList = [.tmp 4] := by kernel_rfl
@[go_sem] theorem f106_nt : Tryz.f106.ntmps = 97 := by kernel_rfl
@[go_sem] theorem f107_en : entersB Tryz.prog 107 = true := by kernel_rfl
@[go_sem] theorem f107_rs : Tryz.f107.results.toList = [.tmp 6] := by kernel_rfl
@[go_sem] theorem f107_nt : Tryz.f107.ntmps = 15 := by kernel_rfl
@[go_sem] theorem f108_en : entersB Tryz.prog 108 = true := by kernel_rfl
@[go_sem] theorem f108_rs : Tryz.f108.results.toList = [.tmp 2] := by kernel_rfl
@[go_sem] theorem f108_nt : Tryz.f108.ntmps = 8 := by kernel_rfl
@[go_sem] theorem f109_en : entersB Tryz.prog 109 = true := by kernel_rfl
@[go_sem] theorem f109_rs : Tryz.f109.results.toList = [.tmp 2] := by kernel_rfl
@[go_sem] theorem f109_nt : Tryz.f109.ntmps = 24 := by kernel_rfl
@[go_sem] theorem f110_en : entersB Tryz.prog 110 = true := by kernel_rfl
@[go_sem] theorem f110_rs : Tryz.f110.results.toList = [.tmp 4] := by kernel_rfl
@[go_sem] theorem f110_nt : Tryz.f110.ntmps = 19 := by kernel_rfl
@[go_sem] theorem f111_en : entersB Tryz.prog 111 = true := by kernel_rfl
@[go_sem] theorem f111_rs : Tryz.f111.results.toList = [.tmp 4] := by kernel_rfl
@[go_sem] theorem f111_nt : Tryz.f111.ntmps = 16 := by kernel_rfl
@[go_sem] theorem f112_en : entersB Tryz.prog 112 = true := by kernel_rfl
@[go_sem] theorem f112_rs : Tryz.f112.results.toList = [] := by kernel_rfl
@[go_sem] theorem f112_nt : Tryz.f112.ntmps = 16 := by kernel_rfl
@[go_sem] theorem f113_en : entersB Tryz.prog 113 = true := by kernel_rfl
@[go_sem] theorem f113_rs : Tryz.f113.results.toList = [.tmp 4] := by kernel_rfl
@[go_sem] theorem f113_nt : Tryz.f113.ntmps = 24 := by kernel_rfl
@[go_sem] theorem f114_en : entersB Tryz.prog 114 = true := by kernel_rfl
@[go_sem] theorem f114_rs : Tryz.f114.results.toList = [.tmp 4] := by kernel_rfl
@[go_sem] theorem f114_nt : Tryz.f114.ntmps = 19 := by kernel_rfl
@[go_sem] theorem f115_en : entersB Tryz.prog 115 = true := by kernel_rfl
@[go_sem] theorem f115_rs : Tryz.f115.results.toList = [.tmp 4] := by kernel_rfl
@[go_sem] theorem f115_nt : Tryz.f115.ntmps = 12 := by kernel_rfl
@[go_sem] theorem f116_en : entersB Tryz.prog 116 = true := by kernel_rfl
@[go_sem] theorem f116_rs : Tryz.f116.results.toList = [.tmp 2] := by kernel_rfl
@[go_sem] theorem f116_nt : Tryz.f116.ntmps = 15 := by kernel_rfl
@[go_sem] theorem f117_en : entersB Tryz.prog 117 = true := by kernel_rfl
@[go_sem] theorem f117_rs : Tryz.f117.results.toList = [.tmp 2] := by kernel_rfl
@[go_sem] theorem f117_nt : Tryz.f117.ntmps = 18 := by kernel_rfl
@[go_sem] theorem f118_en : entersB Tryz.prog 118 = true := by kernel_rfl
@[go_sem] theorem f118_rs : Tryz.f118.results.toList = [.tmp 2] := by kernel_rfl
@[go_sem] theorem f118_nt : Tryz.f118.ntmps = 15 := by kernel_rfl
@[go_sem] theorem f119_en : entersB Tryz.prog 119 = true := by kernel_rfl
@[go_sem] theorem f119_rs : Tryz.f119.results.toList = [.tmp 6] := by kernel_rfl
@[go_sem] theorem f119_nt : Tryz.f119.ntmps = 15 := by kernel_rfl
@[go_sem] theorem f120_en : entersB Tryz.prog 120 = true := by kernel_rfl
@[go_sem] theorem f120_rs : Tryz.f120.results.toList = [.tmp 4] := by kernel_rfl
@[go_sem] theorem f120_nt : Tryz.f120.ntmps = 18 := by kernel_rfl
@[go_sem] theorem f121_en : entersB Tryz.prog 121 = true := by kernel_rfl
@[go_sem] theorem f121_rs : Tryz.f121.results.toList = [.tmp 8] := by kernel_rfl
@[go_sem] theorem f121_nt : Tryz.f121.ntmps = 17 := by kernel_rfl
@[go_sem] theorem f122_en : entersB Tryz.prog 122 = true := by kernel_rfl
@[go_sem] theorem f122_rs : Tryz.f122.results.toList = [.tmp 4] := by kernel_rfl
@[go_sem] theorem f122_nt : Tryz.f122.ntmps = 29 := by kernel_rfl
@[go_sem] theorem f123_en : entersB Tryz.prog 123 = true := by kernel_rfl
@[go_sem] theorem f123_rs : Tryz.f123.results.toList = [.tmp 6] := by kernel_rfl
@[go_sem] theorem f123_nt : Tryz.f123.ntmps = 62 := by kernel_rfl
@[go_sem] theorem f124_en : entersB Tryz.prog 124 = true := by kernel_rfl
@[go_sem] theorem f124_rs : Tryz.f124.results.toList = [.cell 4 62] := by kernel_rfl
@[go_sem] theorem f124_nt : Tryz.f124.ntmps = 26 := by kernel_rfl
@[go_sem] theorem f125_en : entersB Tryz.prog 125 = true := by kernel_rfl
@[go_sem] theorem f125_rs : Tryz.f125.results.toList = [.tmp 4] := by kernel_rfl
@[go_sem] theorem f125_nt : Tryz.f125.ntmps = 19 := by kernel_rfl
@[go_sem] theorem f126_en : entersB Tryz.prog 126 = true := by kernel_rfl
@[go_sem] theorem f126_rs : Tryz.f126.results.toList = [.tmp 4] := by kernel_rfl
@[go_sem] theorem f126_nt : Tryz.f126.ntmps = 19 := by kernel_rfl
@[go_sem] theorem f127_en : entersB Tryz.prog 127 = true := by kernel_rfl
@[go_sem] theorem f127_rs : Tryz.f127.results.toList = [.tmp 4] := by kernel_rfl
@[go_sem] theorem f127_nt : Tryz.f127.ntmps = 42 := by kernel_rfl
@[go_sem] theorem f128_en : entersB Tryz.prog 128 = true := by kernel_rfl
@[go_sem] theorem f128_rs : Tryz.f128.results.toList = [.tmp 3] := by kernel_rfl
@[go_sem] theorem f128_nt : Tryz.f128.ntmps = 8 := by kernel_rfl
@[go_sem] theorem f129_en : entersB Tryz.prog 129 = true := by kernel_rfl
@[go_sem] theorem f129_rs : Tryz.f129.results.toList = [.tmp 4] := by kernel_rfl
@[go_sem] theorem f129_nt : Tryz.f129.ntmps = 39 := by kernel_rfl
@[go_sem] theorem f130_en : entersB Tryz.prog 130 = true := by kernel_rfl
@[go_sem] theorem f130_rs : Tryz.f130.results.toList = [.tmp 4] := by kernel_rfl
@[go_sem] theorem f130_nt : Tryz.f130.ntmps = 42 := by kernel_rfl
@[go_sem] theorem f131_en : entersB Tryz.prog 131 = true := by kernel_rfl
@[go_sem] theorem f131_rs : Tryz.f131.results.toList = [.tmp 5] := by kernel_rfl
@[go_sem] theorem f131_nt : Tryz.f131.ntmps = 13 := by kernel_rfl
@[go_sem] theorem f132_en : entersB Tryz.prog 132 = true := by kernel_rfl
@[go_sem] theorem f132_rs : Tryz.f132.results.toList = [.tmp 5] := by kernel_rfl
@[go_sem] theorem f132_nt : Tryz.f132.ntmps = 15 := by kernel_rfl
@[go_sem] theorem f133_en : entersB Tryz.prog 133 = true := by kernel_rfl
@[go_sem] theorem f133_rs : Tryz.f133.results.toList = [.tmp 4] := by kernel_rfl
@[go_sem] theorem f133_nt : Tryz.f133.ntmps = 19 := by kernel_rfl
@[go_sem] theorem f134_en : entersB Tryz.prog 134 = true := by kernel_rfl
@[go_sem] theorem f134_rs : Tryz.f134.results.toList = [.tmp 3] := by kernel_rfl
@[go_sem] theorem f134_nt : Tryz.f134.ntmps = 16 := by kernel_rfl
@[go_sem] theorem f135_en : entersB Tryz.prog 135 = true := by kernel_rfl
@[go_sem] theorem f135_rs : Tryz.f135.results.toList = [.tmp 4] := by kernel_rfl
@[go_sem] theorem f135_nt : Tryz.f135.ntmps = 19 := by kernel_rfl
@[go_sem] theorem f136_en : entersB Tryz.prog 136 = true := by kernel_rfl
@[go_sem] theorem f136_rs : Tryz.f136.results.toList = [.tmp 4] := by kernel_rfl
@[go_sem] theorem f136_nt : Tryz.f136.ntmps = 19 := by kernel_rfl
@[go_sem] theorem f137_en : entersB Tryz.prog 137 = true := by kernel_rfl
@[go_sem] theorem f137_rs : Tryz.f137.results.toList = [.tmp 4] := by kernel_rfl
@[go_sem] theorem f137_nt : Tryz.f137.ntmps = 35 := by kernel_rfl
@[go_sem] theorem f138_en : entersB Tryz.prog 138 = true := by kernel_rfl
@[go_sem] theorem f138_rs : Tryz.f138.results.toList = [.tmp 2] := by kernel_rfl
@[go_sem] theorem f138_nt : Tryz.f138.ntmps = 10 := by kernel_rfl
@[go_sem] theorem f139_en : entersB Tryz.prog 139 = true := by kernel_rfl
@[go_sem] theorem f139_rs : Tryz.f139.results.toList = [.tmp 2] := by kernel_rfl
@[go_sem] theorem f139_nt : Tryz.f139.ntmps = 36 := by kernel_rfl
@[go_sem] theorem f140_en : entersB Tryz.prog 140 = true := by kernel_rfl
@[go_sem] theorem f140_rs : Tryz.f140.results.toList = [] := by kernel_rfl
@[go_sem] theorem f140_nt : Tryz.f140.ntmps = 9 := by kernel_rfl
@[go_sem] theorem f141_en : entersB Tryz.prog 141 = true := by kernel_rfl
@[go_sem] theorem f141_rs : Tryz.f141.results.toList = [.tmp 4] := by kernel_rfl
@[go_sem] theorem f141_nt : Tryz.f141.ntmps = 10 := by kernel_rfl
@[go_sem] theorem f142_en : entersB Tryz.prog 142 = true := by kernel_rfl
@[go_sem] theorem f142_rs : Tryz.f142.results.toList = [.tmp 4] := by kernel_rfl
@[go_sem] theorem f142_nt : Tryz.f142.ntmps = 20 := by kernel_rfl
@[go_sem] theorem f143_en : entersB Tryz.prog 143 = true := by kernel_rfl
@[go_sem] theorem f143_rs : Tryz.f143.results.toList = [.tmp 6] := by kernel_rfl
@[go_sem] theorem f143_nt : Tryz.f143.ntmps = 36 := by kernel_rfl
@[go_sem] theorem f144_en : entersB Tryz.prog 144 = true := by kernel_rfl
@[go_sem] theorem f144_rs : Tryz.f144.results.toList = [.tmp 4] := by kernel_rfl
@[go_sem] theorem f144_nt : Tryz.f144.ntmps = 15 := by kernel_rfl
@[go_sem] theorem f145_en : entersB Tryz.prog 145 = true := by kernel_rfl
@[go_sem] theorem f145_rs : Tryz.f145.results.toList = [.tmp 4] := by kernel_rfl
@[go_sem] theorem f145_nt : Tryz.f145.ntmps = 78 := by kernel_rfl
@[go_sem] theorem f146_en : entersB Tryz.prog 146 = true := by kernel_rfl
@[go_sem] theorem f146_rs : Tryz.f146.results.toList = [] := by kernel_rfl
@[go_sem] theorem f146_nt : Tryz.f146.ntmps = 14 := by kernel_rfl
@[go_sem] theorem f147_en : entersB Tryz.prog 147 = true := by kernel_rfl
@[go_sem] theorem f147_rs : Tryz.f147.results.toList = [.tmp 4] := by kernel_rfl
@[go_sem] theorem f147_nt : Tryz.f147.ntmps = 22 := by kernel_rfl
@[go_sem] theorem f148_en : entersB Tryz.prog 148 = true := by kernel_rfl
@[go_sem] theorem f148_rs : Tryz.f148.results.toList = [.tmp 4] := by kernel_rfl
@[go_sem] theorem f148_nt : Tryz.f148.ntmps = 66 := by kernel_rfl
@[go_sem] theorem f149_en : entersB Tryz.prog 149 = true := by kernel_rfl
@[go_sem] theorem f149_rs : Tryz.f149.results.toList = [.tmp 4] := by kernel_rfl
@[go_sem] theorem f149_nt : Tryz.f149.ntmps = 10 := by kernel_rfl
@[go_sem] theorem f150_en : entersB Tryz.prog 150 = true := by kernel_rfl
@[go_sem] theorem f150_rs : Tryz.f150.results.toList = [.tmp 2] := by kernel_rfl
@[go_sem] theorem f150_nt : Tryz.f150.ntmps = 16 := by kernel_rfl
@[go_sem] theorem f151_en : entersB Tryz.prog 151 = true := by kernel_rfl
@[go_sem] theorem f151_rs : Tryz.f151.results.toList = [.tmp 3] := by kernel_rfl
@[go_sem] theorem f151_nt : Tryz.f151.ntmps = 24 := by kernel_rfl
@[go_sem] theorem f152_en : entersB Tryz.prog 152 = true := by kernel_rfl
@[go_sem] theorem f152_rs : Tryz.f152.results.toList = [.cell 2 60, .tmp 3] := by kernel_rfl
@[go_sem] theorem f152_nt : Tryz.f152.ntmps = 35 := by kernel_rfl
@[go_sem] theorem f153_en : entersB Tryz.prog 153 = true := by kernel_rfl
@[go_sem] theorem f153_rs : Tryz.f153.results.toList = [.tmp 4] := by kernel_rfl
@[go_sem] theorem f153_nt : Tryz.f153.ntmps = 27 := by kernel_rfl
@[go_sem] theorem f154_en : entersB Tryz.prog 154 = true := by kernel_rfl
@[go_sem] theorem f154_rs : Tryz.f154.results.toList = [.tmp 2] := by kernel_rfl
@[go_sem] theorem f154_nt : Tryz.f154.ntmps = 25 := by kernel_rfl
@[go_sem] theorem f155_en : entersB Tryz.prog 155 = true := by kernel_rfl
@[go_sem] theorem f155_rs : Tryz.f155.results.toList = [.tmp 4] := by kernel_rfl
@[go_sem] theorem f155_nt : Tryz.f155.ntmps = 15 := by kernel_rfl
@[go_sem] theorem f156_en : entersB Tryz.prog 156 = true := by kernel_rfl
@[go_sem] theorem f156_rs : Tryz.f156.results.toList = [.tmp 2] := by kernel_rfl
@[go_sem] theorem f156_nt : Tryz.f156.ntmps = 8 := by kernel_rfl
@[go_sem] theorem f157_en : entersB Tryz.prog 157 = true := by kernel_rfl
@[go_sem] theorem f157_rs : Tryz.f157.results.toList = [.tmp 4] := by kernel_rfl
@[go_sem] theorem f157_nt : Tryz.f157.ntmps = 21 := by kernel_rfl
@[go_sem] theorem f158_en : entersB Tryz.prog 158 = true := by kernel_rfl
@[go_sem] theorem f158_rs : Tryz.f158.results.toList = [.tmp 4] := by kernel_rfl
@[go_sem] theorem f158_nt : Tryz.f158.ntmps = 19 := by kernel_rfl
@[go_sem] theorem f159_en : entersB Tryz.prog 159 = true := by kernel_rfl
@[go_sem] theorem f159_rs : Tryz.f159.results.toList = [.tmp 6] := by kernel_rfl
@[go_sem] theorem f159_nt : Tryz.f159.ntmps = 19 := by kernel_rfl
@[go_sem] theorem f160_en : entersB Tryz.prog 160 = true := by kernel_rfl
@[go_sem] theorem f160_rs : Tryz.f160.results.toList = [.tmp 4] := by kernel_rfl
@[go_sem] theorem f160_nt : Tryz.f160.ntmps = 113 := by kernel_rfl
@[go_sem] theorem f161_en : entersB Tryz.prog 161 = true := by kernel_rfl
@[go_sem] theorem f161_rs : Tryz.f161.results.toList = [.tmp 2] := by kernel_rfl
@[go_sem] theorem f161_nt : Tryz.f161.ntmps = 49 := by kernel_rfl
@[go_sem] theorem f162_en : entersB Tryz.prog 162 = true := by kernel_rfl
@[go_sem] theorem f162_rs : Tryz.f162.results.toList = [.tmp 4] := by kernel_rfl
@[go_sem] theorem f162_nt : Tryz.f162.ntmps = 11 := by kernel_rfl
@[go_sem] theorem f163_en : entersB Tryz.prog 163 = true := by kernel_rfl
@[go_sem] theorem f163_rs : Tryz.f163.results.toList = [.tmp 2] := by kernel_rfl
@[go_sem] theorem f163_nt : Tryz.f163.ntmps = 22 := by kernel_rfl
@[go_sem] theorem f164_en : entersB Tryz.prog 164 = true := by kernel_rfl
@[go_sem] theorem f164_rs : Tryz.f164.results.toList = [.tmp 6] := by kernel_rfl
@[go_sem] theorem f164_nt : Tryz.f164.ntmps = 56 := by kernel_rfl
@[go_sem] theorem f165_en : entersB Tryz.prog 165 = true := by kernel_rfl
@[go_sem] theorem f165_rs : Tryz.f165.results.toList = [.tmp 2] := by kernel_rfl
@[go_sem] theorem f165_nt : Tryz.f165.ntmps = 36 := by kernel_rfl
@[go_sem] theorem f166_en : entersB Tryz.prog 166 = true := by kernel_rfl
@[go_sem] theorem f166_rs : Tryz.f166.results.toList = [.tmp 2] := by kernel_rfl
@[go_sem] theorem f166_nt : Tryz.f166.ntmps = 36 := by kernel_rfl
@[go_sem] theorem f167_en : entersB Tryz.prog 167 = true := by kernel_rfl
@[go_sem] theorem f167_rs : Tryz.f167.results.toList = [] := by kernel_rfl
@[go_sem] theorem f167_nt : Tryz.f167.ntmps = 9 := by kernel_rfl
@[go_sem] theorem f168_en : entersB Tryz.prog 168 = true := by kernel_rfl
@[go_sem] theorem f168_rs : Tryz.f168.results.toList = [.tmp 4] := by kernel_rfl
@[go_sem] theorem f168_nt : Tryz.f168.ntmps = 22 := by kernel_rfl
@[go_sem] theorem f169_en : entersB Tryz.prog 169 = true := by kernel_rfl
@[go_sem] theorem f169_rs : Tryz.f169.results.toList = [.tmp 2] := by kernel_rfl
@[go_sem] theorem f169_nt : Tryz.f169.ntmps = 61 := by kernel_rfl
@[go_sem] theorem f170_en : entersB Tryz.prog 170 = true := by kernel_rfl
@[go_sem] theorem f170_rs : Tryz.f170.results.toList = [.tmp 2] := by kernel_rfl
@[go_sem] theorem f170_nt : Tryz.f170.ntmps = 25 := by kernel_rfl
@[go_sem] theorem f171_en : entersB Tryz.prog 171 = true := by kernel_rfl
@[go_sem] theorem f171_rs : Tryz.f171.results.toList = [.tmp 2] := by kernel_rfl
@[go_sem] theorem f171_nt : Tryz.f171.ntmps = 10 := by kernel_rfl
@[go_sem] theorem f172_en : entersB Tryz.prog 172 = true := by kernel_rfl
@[go_sem] theorem f172_rs : Tryz.f172.results.toList = [.tmp 4] := by kernel_rfl
@[go_sem] theorem f172_nt : Tryz.f172.ntmps = 16 := by kernel_rfl
@[go_sem] theorem f173_en : entersB Tryz.prog 173 = true := by kernel_rfl
@[go_sem] theorem f173_rs : Tryz.f173.results.toList = [] := by kernel_rfl
@[go_sem] theorem f173_nt : Tryz.f173.ntmps = 20 := by kernel_rfl
@[go_sem] theorem f174_en : entersB Tryz.prog 174 = true := by kernel_rfl
@[go_sem] theorem f174_rs : Tryz.f174.results.toList = [.tmp 2] := by kernel_rfl
@[go_sem] theorem f174_nt : Tryz.f174.ntmps = 5 := by kernel_rfl
@[go_sem] theorem f175_en : entersB Tryz.prog 175 = true := by kernel_rfl
@[go_sem] theorem f175_rs : Tryz.f175.results.toList = [.tmp 6] := by kernel_rfl
@[go_sem] theorem f175_nt : Tryz.f175.ntmps = 15 := by kernel_rfl
@[go_sem] theorem f176_en : entersB Tryz.prog 176 = true := by kernel_rfl
@[go_sem] theorem f176_rs : Tryz.f176.results.toList = [.tmp 4] := by kernel_rfl
@[go_sem] theorem f176_nt : Tryz.f176.ntmps = 75 := by kernel_rfl
@[go_sem] theorem f177_en : entersB Tryz.prog 177 = true := by kernel_rfl
@[go_sem] theorem f177_rs : Tryz.f177.results.toList = [.tmp 2, .tmp 3] := by kernel_rfl
@[go_sem] theorem f177_nt : Tryz.f177.ntmps = 15 := by kernel_rfl
@[go_sem] theorem f178_en : entersB Tryz.prog 178 = true := by kernel_rfl
@[go_sem] theorem f178_rs : Tryz.f178.results.toList = [.tmp 4, .tmp 5] := by kernel_rfl
@[go_sem] theorem f178_nt : Tryz.f178.ntmps = 61 := by kernel_rfl
@[go_sem] theorem f179_en : entersB Tryz.prog 179 = true := by kernel_rfl
@[go_sem] theorem f179_rs : Tryz.f179.results.toList = [.tmp 4, .tmp 5, .tmp 6] := by kernel_rfl
@[go_sem] theorem f179_nt : Tryz.f179.ntmps = 13 := by kernel_rfl
@[go_sem] theorem f180_en : entersB Tryz.prog 180 = true := by kernel_rfl
@[go_sem] theorem f180_rs : Tryz.f180.results.toList = [.tmp 8] := by kernel_rfl
@[go_sem] theorem f180_nt : Tryz.f180.ntmps = 66 := by kernel_rfl
@[go_sem] theorem f181_en : entersB Tryz.prog 181 = true := by kernel_rfl
@[go_sem] theorem f181_rs : Tryz.f181.results.toList = [.tmp 2, .tmp 3] := by kernel_rfl
@[go_sem] theorem f181_nt : Tryz.f181.ntmps = 77 := by kernel_rfl
@[go_sem] theorem f182_en : entersB Tryz.prog 182 = true := by kernel_rfl
@[go_sem] theorem f182_rs : Tryz.f182.results.toList = [.tmp 10] := by kernel_rfl
@[go_sem] theorem f182_nt : Tryz.f182.ntmps = 43 := by kernel_rfl
@[go_sem] theorem f183_en : entersB Tryz.prog 183 = true := by kernel_rfl
@[go_sem] theorem f183_rs : Tryz.f183.results.toList = [.tmp 2] := by kernel_rfl
@[go_sem] theorem f183_nt : Tryz.f183.ntmps = 28 := by kernel_rfl
@[go_sem] theorem f184_en : entersB Tryz.prog 184 = true := by kernel_rfl
@[go_sem] theorem f184_rs : Tryz.f184.results.toList = [.tmp 2, .tmp 3, .tmp 4] := by kernel_rfl
@[go_sem] theorem f184_nt : Tryz.f184.ntmps = 56 := by kernel_rfl
@[go_sem] theorem f185_en : entersB Tryz.prog 185 = true := by kernel_rfl
@[go_sem] theorem f185_rs : Tryz.f185.results.toList = [.tmp 2] := by kernel_rfl
@[go_sem] theorem f185_nt : Tryz.f185.ntmps = 42 := by kernel_rfl
@[go_sem] theorem f186_en : entersB Tryz.prog 186 = true := by kernel_rfl
@[go_sem] theorem f186_rs : Tryz.f186.results.toList = [.cell 6 234] := by kernel_rfl
@[go_sem] theorem f186_nt : Tryz.f186.ntmps = 107 := by kernel_rfl
@[go_sem] theorem f187_en : entersB Tryz.prog 187 = true := by kernel_rfl
@[go_sem] theorem f187_rs : Tryz.f187.results.toList = [.tmp 2] := by kernel_rfl
@[go_sem] theorem f187_nt : Tryz.f187.ntmps = 4 := by kernel_rfl
@[go_sem] theorem f188_en : entersB Tryz.prog 188 = true := by kernel_rfl
@[go_sem] theorem f188_rs : Tryz.f188.results.toList = [.cell 4 60] := by kernel_rfl
@[go_sem] theorem f188_nt : Tryz.f188.ntmps = 16 := by kernel_rfl
@[go_sem] theorem f189_en : entersB Tryz.prog 189 = true := by kernel_rfl
@[go_sem] theorem f189_rs : Tryz.f189.results.toList = [.tmp 4] := by kernel_rfl
@[go_sem] theorem f189_nt : Tryz.f189.ntmps = 16 := by kernel_rfl
@[go_sem] theorem f190_en : entersB Tryz.prog 190 = true := by kernel_rfl
@[go_sem] theorem f190_rs : Tryz.f190.results.toList = [.tmp 4, .tmp 5] := by kernel_rfl
@[go_sem] theorem f190_nt : Tryz.f190.ntmps = 33 := by kernel_rfl
@[go_sem] theorem f191_en : entersB Tryz.prog 191 = true := by kernel_rfl
@[go_sem] theorem f191_rs : Tryz.f191.results.toList = [.tmp 6, .tmp 7] := by kernel_rfl
@[go_sem] theorem f191_nt : Tryz.f191.ntmps = 49 := by kernel_rfl
@[go_sem] theorem f192_en : entersB Tryz.prog 192 = true := by kernel_rfl
@[go_sem] theorem f192_rs : Tryz.f192.results.toList = [.tmp 4] := by kernel_rfl
@[go_sem] theorem f192_nt : Tryz.f192.ntmps = 9 := by kernel_rfl
@[go_sem] theorem f193_en : entersB Tryz.prog 193 = true := by kernel_rfl
@[go_sem] theorem f193_rs : Tryz.f193.results.toList = [.tmp 4] := by kernel_rfl
@[go_sem] theorem f193_nt : Tryz.f193.ntmps = 16 := by kernel_rfl
@[go_sem] theorem f194_en : entersB Tryz.prog 194 = true := by kernel_rfl
@[go_sem] theorem f194_rs : Tryz.f194.results.toList = [.tmp 2] := by kernel_rfl
@[go_sem] theorem f194_nt : Tryz.f194.ntmps = 14 := by kernel_rfl
@[go_sem] theorem f195_en : entersB Tryz.prog 195 = true := by kernel_rfl
@[go_sem] theorem f195_rs : Tryz.f195.results.toList = [.tmp 4] := by kernel_rfl
@[go_sem] theorem f195_nt : Tryz.f195.ntmps = 18 := by kernel_rfl
@[go_sem] theorem f196_en : entersB Tryz.prog 196 = true := by kernel_rfl
@[go_sem] theorem f196_rs : Tryz.f196.results.toList = [.tmp 2] := by kernel_rfl
@[go_sem] theorem f196_nt : Tryz.f196.ntmps = 83 := by kernel_rfl
@[go_sem] theorem f197_en : entersB Tryz.prog 197 = true := by kernel_rfl
@[go_sem] theorem f197_rs : Tryz.f197.results.toList = [.tmp 2] := by kernel_rfl
@[go_sem] theorem f197_nt : Tryz.f197.ntmps = 73 := by kernel_rfl
@[go_sem] theorem f198_en : entersB Tryz.prog 198 = true := by kernel_rfl
@[go_sem] theorem f198_rs : Tryz.f198.results.toList = [.tmp 2] := by kernel_rfl
@[go_sem] theorem f198_nt : Tryz.f198.ntmps = 6 := by kernel_rfl
@[go_sem] theorem f199_en : entersB Tryz.prog 199 = true := by kernel_rfl
@[go_sem] theorem f199_rs : Tryz.f199.results.toList = [] := by kernel_rfl
@[go_sem] theorem f199_nt : Tryz.f199.ntmps = 14 := by kernel_rfl
@[go_sem] theorem f200_en : entersB Tryz.prog 200 = true := by kernel_rfl
@[go_sem] theorem f200_rs : Tryz.f200.results.toList = [.tmp 4] := by kernel_rfl
@[go_sem] theorem f200_nt : Tryz.f200.ntmps = 10 := by kernel_rfl
@[go_sem] theorem f201_en : entersB Tryz.prog 201 = true := by kernel_rfl
@[go_sem] theorem f201_rs : Tryz.f201.results.toList = [.cell 4 39] := by kernel_rfl
@[go_sem] theorem f201_nt : Tryz.f201.ntmps = 57 := by kernel_rfl
@[go_sem] theorem f202_en : entersB Tryz.prog 202 = true := by kernel_rfl
@[go_sem] theorem f202_rs : Tryz.f202.results.toList = [.tmp 2] := by kernel_rfl
@[go_sem] theorem f202_nt : Tryz.f202.ntmps = 11 := by kernel_rfl
@[go_sem] theorem f203_en : entersB Tryz.prog 203 = true := by kernel_rfl
@[go_sem] theorem f203_rs : Tryz.f203.results.toList = [.tmp 4] := by kernel_rfl
@[go_sem] theorem f203_nt : Tryz.f203.ntmps = 27 := by kernel_rfl
@[go_sem] theorem f204_en : entersB Tryz.prog 204 = true := by kernel_rfl
@[go_sem] theorem f204_rs : Tryz.f204.results.toList = [] := by kernel_rfl
@[go_sem] theorem f204_nt : Tryz.f204.ntmps = 63 := by kernel_rfl
@[go_sem] theorem f205_en : entersB Tryz.prog 205 = true := by kernel_rfl
@[go_sem] theorem f205_rs : Tryz.f205.results.toList = [.tmp 2] := by kernel_rfl
@[go_sem] theorem f205_nt : Tryz.f205.ntmps = 6 := by kernel_rfl
@[go_sem] theorem f206_en : entersB Tryz.prog 206 = true := by kernel_rfl
@[go_sem] theorem f206_rs : Tryz.f206.results.toList = [] := by kernel_rfl
@[go_sem] theorem f206_nt : Tryz.f206.ntmps = 148 := by kernel_rfl
@[go_sem] theorem f207_en : entersB Tryz.prog 207 = true := by kernel_rfl
@[go_sem] theorem f207_rs : Tryz.f207.results.toList = [.tmp 2] := by kernel_rfl
@[go_sem] theorem f207_nt : Tryz.f207.ntmps = 8 := by kernel_rfl
@[go_sem] theorem f208_en : entersB Tryz.prog 208 = true := by kernel_rfl
@[go_sem] theorem f208_rs : Tryz.f208.results.toList = [.tmp 2] := by kernel_rfl
@[go_sem] theorem f208_nt : Tryz.f208.ntmps = 18 := by kernel_rfl
@[go_sem] theorem f209_en : entersB Tryz.prog 209 = true := by kernel_rfl
@[go_sem] theorem f209_rs : Tryz.f209.results.toList = [.tmp 2] := by kernel_rfl
@[go_sem] theorem f209_nt : Tryz.f209.ntmps = 8 := by kernel_rfl
@[go_sem] theorem f210_en : entersB Tryz.prog 210 = true := by kernel_rfl
@[go_sem] theorem f210_rs : Tryz.f210.results.toList = [.tmp 4] := by kernel_rfl
@[go_sem] theorem f210_nt : Tryz.f210.ntmps = 11 := by kernel_rfl
@[go_sem] theorem f211_en : entersB Tryz.prog 211 = true := by kernel_rfl
@[go_sem] theorem f211_rs : Tryz.f211.results.toList = [.cell 2 60] := by kernel_rfl
@[go_sem] theorem f211_nt : Tryz.f211.ntmps = 13 := by kernel_rfl
@[go_sem] theorem f212_en : entersB Tryz.prog 212 = true := by kernel_rfl
@[go_sem] theorem f212_rs : Tryz.f212.results.toList = [.tmp 4] := by kernel_rfl
@[go_sem] theorem f212_nt : Tryz.f212.ntmps = 34 := by kernel_rfl
@[go_sem] theorem f213_en : entersB Tryz.prog 213 = true := by kernel_rfl
@[go_sem] theorem f213_rs : Tryz.f213.results.toList = [.tmp 2] := by kernel_rfl
@[go_sem] theorem f213_nt : Tryz.f213.ntmps = 74 := by kernel_rfl
@[go_sem] theorem f214_en : entersB Tryz.prog 214 = true := by kernel_rfl
@[go_sem] theorem f214_rs : Tryz.f214.results.toList = [.tmp 4] := by kernel_rfl
@[go_sem] theorem f214_nt : Tryz.f214.ntmps = 9 := by kernel_rfl
@[go_sem] theorem f215_en : entersB Tryz.prog 215 = true := by kernel_rfl
@[go_sem] theorem f215_rs : Tryz.f215.results.toList = [.tmp 3] := by kernel_rfl
@[go_sem] theorem f215_nt : Tryz.f215.ntmps = 7 := by kernel_rfl
@[go_sem] theorem f216_en : entersB Tryz.prog 216 = true := by kernel_rfl
@[go_sem] theorem f216_rs : Tryz.f216.results.toList = [.tmp 4] := by kernel_rfl
@[go_sem] theorem f216_nt : Tryz.f216.ntmps = 17 := by kernel_rfl
@[go_sem] theorem f217_en : entersB Tryz.prog 217 = true := by kernel_rfl
@[go_sem] theorem f217_rs : Tryz.f217.results.toList = [.tmp 2] := by kernel_rfl
@[go_sem] theorem f217_nt : Tryz.f217.ntmps = 9 := by kernel_rfl
@[go_sem] theorem f218_en : entersB Tryz.prog 218 = true := by kernel_rfl
@[go_sem] theorem f218_rs : Tryz.f218.results.toList = [.tmp 2] := by kernel_rfl
@[go_sem] theorem f218_nt : Tryz.f218.ntmps = 4 := by kernel_rfl
@[go_sem] theorem f219_en : entersB Tryz.prog 219 = true := by kernel_rfl
@[go_sem] theorem f219_rs : Tryz.f219.results.toList = [] := by kernel_rfl
@[go_sem] theorem f219_nt : Tryz.f219.ntmps = 33 := by kernel_rfl
@[go_sem] theorem f220_en : entersB Tryz.prog 220 = true := by kernel_rfl
@[go_sem] theorem f220_rs : Tryz.f220.results.toList = [.tmp 2] := by kernel_rfl
@[go_sem] theorem f220_nt : Tryz.f220.ntmps = 40 := by kernel_rfl
@[go_sem] theorem f221_en : entersB Tryz.prog 221 = true := by kernel_rfl
@[go_sem] theorem f221_rs : Tryz.f221.results.toList = [.tmp 4] := by kernel_rfl
@[go_sem] theorem f221_nt : Tryz.f221.ntmps = 27 := by kernel_rfl
@[go_sem] theorem f222_en : entersB Tryz.prog 222 = true := by kernel_rfl
@[go_sem] theorem f222_rs : Tryz.f222.results.toList = [] := by kernel_rfl
@[go_sem] theorem f222_nt : Tryz.f222.ntmps = 63 := by kernel_rfl
@[go_sem] theorem f223_en : entersB Tryz.prog 223 = true := by kernel_rfl
@[go_sem] theorem f223_rs : Tryz.f223.results.toList = [.tmp 4] := by kernel_rfl
@[go_sem] theorem f223_nt : Tryz.f223.ntmps = 8 := by kernel_rfl
@[go_sem] theorem f225_en : entersB Tryz.prog 225 = true := by kernel_rfl
@[go_sem] theorem f225_rs : Tryz.f225.results.toList = [.tmp 4] := by kernel_rfl
@[go_sem] theorem f225_nt : Tryz.f225.ntmps = 54 := by kernel_rfl
@[go_sem] theorem f226_en : entersB Tryz.prog 226 = true := by kernel_rfl
@[go_sem] theorem f226_rs : Tryz.f226.results.toList = [] := by kernel_rfl
@[go_sem] theorem f226_nt : Tryz.f226.ntmps = 25 := by kernel_rfl
@[go_sem] theorem f227_en : entersB Tryz.prog 227 = true := by kernel_rfl
@[go_sem] theorem f227_rs : Tryz.f227.results.toList = [.tmp 4, .tmp 5] := by kernel_rfl
@[go_sem] theorem f227_nt : Tryz.f227.ntmps = 11 := by kernel_rfl
@[go_sem] theorem f228_en : entersB Tryz.prog 228 = true := by kernel_rfl
@[go_sem] theorem f228_rs : Tryz.f228.results.toList = [.tmp 4] := by kernel_rfl
@[go_sem] theorem f228_nt : Tryz.f228.ntmps = 8 := by kernel_rfl
@[go_sem] theorem f229_en : entersB Tryz.prog 229 = true := by kernel_rfl
@[go_sem] theorem f229_rs : Tryz.f229.results.toList = [.tmp 4, .tmp 5, .tmp 6] := by kernel_rfl
@[go_sem] theorem f229_nt : Tryz.f229.ntmps = 23 := by kernel_rfl
@[go_sem] theorem f230_en : entersB Tryz.prog 230 = true := by kernel_rfl
@[go_sem] theorem f230_rs : Tryz.f230.results.toList = [.tmp 4] := by kernel_rfl
@[go_sem] theorem f230_nt : Tryz.f230.ntmps = 50 := by kernel_rfl
@[go_sem] theorem f231_en : entersB Tryz.prog 231 = true := by kernel_rfl
@[go_sem] theorem f231_rs : Tryz.f231.results.toList = [.tmp 4] := by kernel_rfl
@[go_sem] theorem f231_nt : Tryz.f231.ntmps = 34 := by kernel_rfl
@[go_sem] theorem f232_en : entersB Tryz.prog 232 = true := by kernel_rfl
@[go_sem] theorem f232_rs : Tryz.f232.results.toList = [.tmp 4] := by kernel_rfl
@[go_sem] theorem f232_nt : Tryz.f232.ntmps = 8 := by kernel_rfl
@[go_sem] theorem f233_en : entersB Tryz.prog 233 = true := by kernel_rfl
@[go_sem] theorem f233_rs : Tryz.f233.results.toList = [.tmp 6, .tmp 7] := by kernel_rfl
@[go_sem] theorem f233_nt : Tryz.f233.ntmps = 73 := by kernel_rfl
@[go_sem] theorem f234_en : entersB Tryz.prog 234 = true := by kernel_rfl
@[go_sem] theorem f234_rs : Tryz.f234.results.toList = [.tmp 4] := by kernel_rfl
@[go_sem] theorem f234_nt : Tryz.f234.ntmps = 11 := by kernel_rfl
@[go_sem] theorem f235_en : entersB Tryz.prog 235 = true := by kernel_rfl
@[go_sem] theorem f235_rs : Tryz.f235.results.toList = [.tmp 4] := by kernel_rfl
@[go_sem] theorem f235_nt : Tryz.f235.ntmps = 11 := by kernel_rfl
@[go_sem] theorem f236_en : entersB Tryz.prog 236 = true := by kernel_rfl
@[go_sem] theorem f236_rs : Tryz.f236.results.toList = [.tmp 6] := by kernel_rfl
@[go_sem] theorem f236_nt : Tryz.f236.ntmps = 16 := by kernel_rfl
@[go_sem] theorem f237_en : entersB Tryz.prog 237 = true := by kernel_rfl
@[go_sem] theorem f237_rs : Tryz.f237.results.toList = [.tmp 6] := by kernel_rfl
@[go_sem] theorem f237_nt : Tryz.f237.ntmps = 16 := by kernel_rfl
@[go_sem] theorem f238_en : entersB Tryz.prog 238 = true := by kernel_rfl
@[go_sem] theorem f238_rs : Tryz.f238.results.toList = [.cell 4 290] := by kernel_rfl
@[go_sem] theorem f238_nt : Tryz.f238.ntmps = 127 := by kernel_rfl
@[go_sem] theorem f239_en : entersB Tryz.prog 239 = true := by kernel_rfl
@[go_sem] theorem f239_rs : Tryz.f239.results.toList = [.tmp 2] := by kernel_rfl
@[go_sem] theorem f239_nt : Tryz.f239.ntmps = 7 := by kernel_rfl
@[go_sem] theorem f240_en : entersB Tryz.prog 240 = true := by kernel_rfl
@[go_sem] theorem f240_rs : Tryz.f240.results.toList = [.tmp 2] := by kernel_rfl
@[go_sem] theorem f240_nt : Tryz.f240.ntmps = 18 := by kernel_rfl
@[go_sem] theorem f241_en : entersB Tryz.prog 241 = true := by kernel_rfl
@[go_sem] theorem f241_rs : Tryz.f241.results.toList = [.tmp 2] := by kernel_rfl
@[go_sem] theorem f241_nt : Tryz.f241.ntmps = 54 := by kernel_rfl
@[go_sem] theorem f242_en : entersB Tryz.prog 242 = true := by kernel_rfl
@[go_sem] theorem f242_rs : Tryz.f242.results.toList = [.cell 5 234] := by kernel_rfl
@[go_sem] theorem f242_nt : Tryz.f242.ntmps = 16 := by kernel_rfl
@[go_sem] theorem f243_en : entersB Tryz.prog 243 = true := by kernel_rfl
@[go_sem] theorem f243_rs : Tryz.f243.results.toList = [.cell 0 234] := by kernel_rfl
@[go_sem] theorem f243_nt : Tryz.f243.ntmps = 2 := by kernel_rfl
@[go_sem] theorem f244_en : entersB Tryz.prog 244 = true := by kernel_rfl
@[go_sem] theorem f244_rs : Tryz.f244.results.toList = [.cell 6 234] := by kernel_rfl
@[go_sem] theorem f244_nt : Tryz.f244.ntmps = 20 := by kernel_rfl
@[go_sem] theorem f245_en : entersB Tryz.prog 245 = true := by kernel_rfl
@[go_sem] theorem f245_rs : Tryz.f245.results.toList = [.cell 4 234] := by kernel_rfl
@[go_sem] theorem f245_nt : Tryz.f245.ntmps = 10 := by kernel_rfl
@[go_sem] theorem f246_en : entersB Tryz.prog 246 = true := by kernel_rfl
@[go_sem] theorem f246_rs : Tryz.f246.results.toList = [.cell 6 234] := by kernel_rfl
@[go_sem] theorem f246_nt : Tryz.f246.ntmps = 88 := by kernel_rfl
@[go_sem] theorem f247_en : entersB Tryz.prog 247 = true := by kernel_rfl
@[go_sem] theorem f247_rs : Tryz.f247.results.toList = [.cell 5 234] := by kernel_rfl
@[go_sem] theorem f247_nt : Tryz.f247.ntmps = 36 := by kernel_rfl
@[go_sem] theorem f248_en : entersB Tryz.prog 248 = true := by kernel_rfl
@[go_sem] theorem f248_rs : Tryz.f248.results.toList = [.tmp 4] := by kernel_rfl
@[go_sem] theorem f248_nt : Tryz.f248.ntmps = 20 := by kernel_rfl
@[go_sem] theorem f249_en : entersB Tryz.prog 249 = true := by kernel_rfl
@[go_sem] theorem f249_rs : Tryz.f249.results.toList = [.tmp 6, .tmp 7] := by kernel_rfl
@[go_sem] theorem f249_nt : Tryz.f249.ntmps = 49 := by kernel_rfl
@[go_sem] theorem f250_en : entersB Tryz.prog 250 = true := by kernel_rfl
@[go_sem] theorem f250_rs : Tryz.f250.results.toList = [.tmp 4] := by kernel_rfl
@[go_sem] theorem f250_nt : Tryz.f250.ntmps = 9 := by kernel_rfl
@[go_sem] theorem f251_en : entersB Tryz.prog 251 = true := by kernel_rfl
@[go_sem] theorem f251_rs : Tryz.f251.results.toList = [.tmp 2] := by kernel_rfl
@[go_sem] theorem f251_nt : Tryz.f251.ntmps = 40 := by kernel_rfl
@[go_sem] theorem f252_en : entersB Tryz.prog 252 = true := by kernel_rfl
@[go_sem] theorem f252_rs : Tryz.f252.results.toList = [.tmp 4] := by kernel_rfl
@[go_sem] theorem f252_nt : Tryz.f252.ntmps = 8 := by kernel_rfl
@[go_sem] theorem f253_en : entersB Tryz.prog 253 = true := by kernel_rfl
@[go_sem] theorem f253_rs : Tryz.f253.results.toList = [.tmp 2] := by kernel_rfl
@[go_sem] theorem f253_nt : Tryz.f253.ntmps = 18 := by kernel_rfl
@[go_sem] theorem f254_en : entersB Tryz.prog 254 = true := by kernel_rfl
@[go_sem] theorem f254_rs : Tryz.f254.results.toList = [] := by kernel_rfl
@[go_sem] theorem f254_nt : Tryz.f254.ntmps = 148 := by kernel_rfl
@[go_sem] theorem f255_en : entersB Tryz.prog 255 = true := by kernel_rfl
@[go_sem] theorem f255_rs : Tryz.f255.results.toList = [] := by kernel_rfl
@[go_sem] theorem f255_nt : Tryz.f255.ntmps = 53 := by kernel_rfl
@[go_sem] theorem f256_en : entersB Tryz.prog 256 = true := by kernel_rfl
@[go_sem] theorem f256_rs : Tryz.f256.results.toList = [] := by kernel_rfl
@[go_sem] theorem f256_nt : Tryz.f256.ntmps = 220 := by kernel_rfl
@[go_sem] theorem f257_en : entersB Tryz.prog 257 = true := by kernel_rfl
@[go_sem] theorem f257_rs : Tryz.f257.results.toList = [] := by kernel_rfl
@[go_sem] theorem f257_nt : Tryz.f257.ntmps = 53 := by kernel_rfl
@[go_sem] theorem f258_en : entersB Tryz.prog 258 = true := by kernel_rfl
@[go_sem] theorem f258_rs : Tryz.f258.results.toList = [] := by kernel_rfl
@[go_sem] theorem f258_nt : Tryz.f258.ntmps = 60 := by kernel_rfl
@[go_sem] theorem f259_en : entersB Tryz.prog 259 = true := by kernel_rfl
@[go_sem] theorem f259_rs : Tryz.f259.results.toList = [] := by kernel_rfl
@[go_sem] theorem f259_nt : Tryz.f259.ntmps = 67 := by kernel_rfl
@[go_sem] theorem f260_en : entersB Tryz.prog 260 = true := by kernel_rfl
@[go_sem] theorem f260_rs : Tryz.f260.results.toList = [.tmp 8, .tmp 9] := by kernel_rfl
@[go_sem] theorem f260_nt : Tryz.f260.ntmps = 63 := by kernel_rfl
@[go_sem] theorem f261_en : entersB Tryz.prog 261 = true := by kernel_rfl
@[go_sem] theorem f261_rs : Tryz.f261.results.toList = [] := by kernel_rfl
@[go_sem] theorem f261_nt : Tryz.f261.ntmps = 34 := by kernel_rfl
@[go_sem] theorem f262_en : entersB Tryz.prog 262 = true := by kernel_rfl
@[go_sem] theorem f262_rs : Tryz.f262.results.toList = [.tmp 8] := by kernel_rfl
@[go_sem] theorem f262_nt : Tryz.f262.ntmps = 141 := by kernel_rfl
@[go_sem] theorem f263_en : entersB Tryz.prog 263 = true := by kernel_rfl
@[go_sem] theorem f263_rs : Tryz.f263.results.toList = [.tmp 10] := by kernel_rfl
@[go_sem] theorem f263_nt : Tryz.f263.ntmps = 90 := by kernel_rfl
@[go_sem] theorem f264_en : entersB Tryz.prog 264 = true := by kernel_rfl
@[go_sem] theorem f264_rs : Tryz.f264.results.toList = [.tmp 10, .tmp 11] := by kernel_rfl
@[go_sem] theorem f264_nt : Tryz.f264.ntmps = 178 := by kernel_rfl
@[go_sem] theorem f265_en : entersB Tryz.prog 265 = true := by kernel_rfl
@[go_sem] theorem f265_rs : Tryz.f265.results.toList = [.tmp 2] := by kernel_rfl
@[go_sem] theorem f265_nt : Tryz.f265.ntmps = 19 := by kernel_rfl
@[go_sem] theorem f266_en : entersB Tryz.prog 266 = true := by kernel_rfl
@[go_sem] theorem f266_rs : Tryz.f266.results.toList = [.tmp 2] := by kernel_rfl
@[go_sem] theorem f266_nt : Tryz.f266.ntmps = 25 := by kernel_rfl
@[go_sem] theorem f267_en : entersB Tryz.prog 267 = true := by kernel_rfl
@[go_sem] theorem f267_rs : Tryz.f267.results.toList = [.tmp 2] := by kernel_rfl
@[go_sem] theorem f267_nt : Tryz.f267.ntmps = 9 := by kernel_rfl
@[go_sem] theorem f268_en : entersB Tryz.prog 268 = true := by kernel_rfl
@[go_sem] theorem f268_rs : Tryz.f268.results.toList = [.tmp 2] := by kernel_rfl
@[go_sem] theorem f268_nt : Tryz.f268.ntmps = 27 := by kernel_rfl
@[go_sem] theorem f269_en : entersB Tryz.prog 269 = true := by kernel_rfl
@[go_sem] theorem f269_rs : Tryz.f269.results.toList = [.tmp 4] := by kernel_rfl
@[go_sem] theorem f269_nt : Tryz.f269.ntmps = 19 := by kernel_rfl
@[go_sem] theorem f270_en : entersB Tryz.prog 270 = true := by kernel_rfl
@[go_sem] theorem f270_rs : Tryz.f270.results.toList = [.tmp 2] := by kernel_rfl
@[go_sem] theorem f270_nt : Tryz.f270.ntmps = 5 := by kernel_rfl
@[go_sem] theorem f271_en : entersB Tryz.prog 271 = true := by kernel_rfl
@[go_sem] theorem f271_rs : Tryz.f271.results.toList = [] := by kernel_rfl
@[go_sem] theorem f271_nt : Tryz.f271.ntmps = 11 := by kernel_rfl
@[go_sem] theorem f272_en : entersB Tryz.prog 272 = true := by kernel_rfl
@[go_sem] theorem f272_rs : Tryz.f272.results.toList = [] := by kernel_rfl
@[go_sem] theorem f272_nt : Tryz.f272.ntmps = 14 := by kernel_rfl
@[go_sem] theorem f273_en : entersB Tryz.prog 273 = true := by kernel_rfl
@[go_sem] theorem f273_rs : Tryz.f273.results.toList = [.tmp 2] := by kernel_rfl
@[go_sem] theorem f273_nt : Tryz.f273.ntmps = 42 := by kernel_rfl
@[go_sem] theorem f274_en : entersB Tryz.prog 274 = true := by kernel_rfl
@[go_sem] theorem f274_rs : Tryz.f274.results.toList = [.cell 2 125] := by kernel_rfl
@[go_sem] theorem f274_nt : Tryz.f274.ntmps = 18 := by kernel_rfl
@[go_sem] theorem f275_en : entersB Tryz.prog 275 = true := by kernel_rfl
@[go_sem] theorem f275_rs : Tryz.f275.results.toList = [] := by kernel_rfl
@[go_sem] theorem f275_nt : Tryz.f275.ntmps = 53 := by kernel_rfl
@[go_sem] theorem f276_en : entersB Tryz.prog 276 = true := by kernel_rfl
@[go_sem] theorem f276_rs : Tryz.f276.results.toList = [] := by kernel_rfl
@[go_sem] theorem f276_nt : Tryz.f276.ntmps = 220 := by kernel_rfl
@[go_sem] theorem f277_en : entersB Tryz.prog 277 = true := by kernel_rfl
@[go_sem] theorem f277_rs : Tryz.f277.results.toList = [.tmp 4] := by kernel_rfl
@[go_sem] theorem f277_nt : Tryz.f277.ntmps = 8 := by kernel_rfl
@[go_sem] theorem f278_en : entersB Tryz.prog 278 = true := by kernel_rfl
@[go_sem] theorem f278_rs : Tryz.f278.results.toList = [.tmp 2] := by kernel_rfl
@[go_sem] theorem f278_nt : Tryz.f278.ntmps = 15 := by kernel_rfl
@[go_sem] theorem f279_en : entersB Tryz.prog 279 = true := by kernel_rfl
@[go_sem] theorem f279_rs : Tryz.f279.results.toList = [.tmp 2] := by kernel_rfl
@[go_sem] theorem f279_nt : Tryz.f279.ntmps = 15 := by kernel_rfl
@[go_sem] theorem f280_en : entersB Tryz.prog 280 = true := by kernel_rfl
@[go_sem] theorem f280_rs : Tryz.f280.results.toList = [] := by kernel_rfl
@[go_sem] theorem f280_nt : Tryz.f280.ntmps = 167 := by kernel_rfl
@[go_sem] theorem f281_en : entersB Tryz.prog 281 = true := by kernel_rfl
@[go_sem] theorem f281_rs : Tryz.f281.results.toList = [.tmp 10, .tmp 11] := by kernel_rfl
@[go_sem] theorem f281_nt : Tryz.f281.ntmps = 102 := by kernel_rfl
@[go_sem] theorem f282_en : entersB Tryz.prog 282 = true := by kernel_rfl
@[go_sem] theorem f282_rs : Tryz.f282.results.toList = [] := by kernel_rfl
@[go_sem] theorem f282_nt : Tryz.f282.ntmps = 30 := by kernel_rfl
@[go_sem] theorem f283_en : entersB Tryz.prog 283 = true := by kernel_rfl
@[go_sem] theorem f283_rs : Tryz.f283.results.toList = [.tmp 4, .tmp 5] := by kernel_rfl
@[go_sem] theorem f283_nt : Tryz.f283.ntmps = 18 := by kernel_rfl
@[go_sem] theorem f284_en : entersB Tryz.prog 284 = true := by kernel_rfl
@[go_sem] theorem f284_rs : Tryz.f284.results.toList = [.tmp 4] := by kernel_rfl
@[go_sem] theorem f284_nt : Tryz.f284.ntmps = 13 := by kernel_rfl
@[go_sem] theorem f285_en : entersB Tryz.prog 285 = true := by kernel_rfl
@[go_sem] theorem f285_rs : Tryz.f285.results.toList = [.tmp 4] := by kernel_rfl
@[go_sem] theorem f285_nt : Tryz.f285.ntmps = 143 := by kernel_rfl
@[go_sem] theorem f286_en : entersB Tryz.prog 286 = true := by kernel_rfl
@[go_sem] theorem f286_rs : Tryz.f286.results.toList = [.tmp 2] := by kernel_rfl
@[go_sem] theorem f286_nt : Tryz.f286.ntmps = 10 := by kernel_rfl
@[go_sem] theorem f287_en : entersB Tryz.prog 287 = true := by kernel_rfl
@[go_sem] theorem f287_rs : Tryz.f287.results.toList = [.tmp 2, .tmp 3] := by kernel_rfl
@[go_sem] theorem f287_nt : Tryz.f287.ntmps = 19 := by kernel_rfl
@[go_sem] theorem f289_en : entersB Tryz.prog 289 = true := by kernel_rfl
@[go_sem] theorem f289_rs : Tryz.f289.results.toList = [.tmp 6, .tmp 7] := by kernel_rfl
@[go_sem] theorem f289_nt : Tryz.f289.ntmps = 172 := by kernel_rfl
@[go_sem] theorem f290_en : entersB Tryz.prog 290 = true := by kernel_rfl
@[go_sem] theorem f290_rs : Tryz.f290.results.toList = [.tmp 2] := by kernel_rfl
@[go_sem] theorem f290_nt : Tryz.f290.ntmps = 18 := by kernel_rfl
@[go_sem] theorem f291_en : entersB Tryz.prog 291 = true := by kernel_rfl
@[go_sem] theorem f291_rs : Tryz.f291.results.toList = [.tmp 2] := by kernel_rfl
@[go_sem] theorem f291_nt : Tryz.f291.ntmps = 7 := by kernel_rfl
@[go_sem] theorem f292_en : entersB Tryz.prog 292 = true := by kernel_rfl
@[go_sem] theorem f292_rs : Tryz.f292.results.toList = [.tmp 2] := by kernel_rfl
@[go_sem] theorem f292_nt : Tryz.f292.ntmps = 9 := by kernel_rfl
@[go_sem] theorem f293_en : entersB Tryz.prog 293 = true := by kernel_rfl
@[go_sem] theorem f293_rs : Tryz.f293.results.toList = [.tmp 2] := by kernel_rfl
@[go_sem] theorem f293_nt : Tryz.f293.ntmps = 9 := by kernel_rfl
@[go_sem] theorem f294_en : entersB Tryz.prog 294 = true := by kernel_rfl
@[go_sem] theorem f294_rs : Tryz.f294.results.toList = [.tmp 8] := by kernel_rfl
@[go_sem] theorem f294_nt : Tryz.f294.ntmps = 54 := by kernel_rfl
@[go_sem] theorem f295_en : entersB Tryz.prog 295 = true := by kernel_rfl
@[go_sem] theorem f295_rs : Tryz.f295.results.toList = [.tmp 2] := by kernel_rfl
@[go_sem] theorem f295_nt : Tryz.f295.ntmps = 7 := by kernel_rfl
@[go_sem] theorem f296_en : entersB Tryz.prog 296 = true := by kernel_rfl
@[go_sem] theorem f296_rs : Tryz.f296.results.toList = [.tmp 4] := by kernel_rfl
@[go_sem] theorem f296_nt : Tryz.f296.ntmps = 22 := by kernel_rfl
@[go_sem] theorem f297_en : entersB Tryz.prog 297 = true := by kernel_rfl
@[go_sem] theorem f297_rs : Tryz.f297.results.toList = [.tmp 6, .tmp 7] := by kernel_rfl
@[go_sem] theorem f297_nt : Tryz.f297.ntmps = 49 := by kernel_rfl
@[go_sem] theorem f298_en : entersB Tryz.prog 298 = true := by kernel_rfl
@[go_sem] theorem f298_rs : Tryz.f298.results.toList = [.tmp 4] := by kernel_rfl
@[go_sem] theorem f298_nt : Tryz.f298.ntmps = 9 := by kernel_rfl
@[go_sem] theorem f299_en : entersB Tryz.prog 299 = true := by kernel_rfl
@[go_sem] theorem f299_rs : Tryz.f299.results.toList = [.tmp 2] := by kernel_rfl
@[go_sem] theorem f299_nt : Tryz.f299.ntmps = 29 := by kernel_rfl
@[go_sem] theorem f300_en : entersB Tryz.prog 300 = true := by kernel_rfl
@[go_sem] theorem f300_rs : Tryz.f300.results.toList = [.tmp 4] := by kernel_rfl
@[go_sem] theorem f300_nt : Tryz.f300.ntmps = 24 := by kernel_rfl
@[go_sem] theorem f301_en : entersB Tryz.prog 301 = true := by kernel_rfl
@[go_sem] theorem f301_rs : Tryz.f301.results.toList = [.tmp 2] := by kernel_rfl
@[go_sem] theorem f301_nt : Tryz.f301.ntmps = 20 := by kernel_rfl
@[go_sem] theorem f302_en : entersB Tryz.prog 302 = true := by kernel_rfl
@[go_sem] theorem f302_rs : Tryz.f302.results.toList = [.tmp 2] := by kernel_rfl
@[go_sem] theorem f302_nt : Tryz.f302.ntmps = 40 := by kernel_rfl
@[go_sem] theorem f303_en : entersB Tryz.prog 303 = true := by kernel_rfl
@[go_sem] theorem f303_rs : Tryz.f303.results.toList = [.tmp 4] := by kernel_rfl
@[go_sem] theorem f303_nt : Tryz.f303.ntmps = 8 := by kernel_rfl
@[go_sem] theorem f304_en : entersB Tryz.prog 304 = true := by kernel_rfl
@[go_sem] theorem f304_rs : Tryz.f304.results.toList = [] := by kernel_rfl
@[go_sem] theorem f304_nt : Tryz.f304.ntmps = 53 := by kernel_rfl
@[go_sem] theorem f305_en : entersB Tryz.prog 305 = true := by kernel_rfl
@[go_sem] theorem f305_rs : Tryz.f305.results.toList = [] := by kernel_rfl
@[go_sem] theorem f305_nt : Tryz.f305.ntmps = 60 := by kernel_rfl
@[go_sem] theorem f306_en : entersB Tryz.prog 306 = true := by kernel_rfl
@[go_sem] theorem f306_rs : Tryz.f306.results.toList = [] := by kernel_rfl
@[go_sem] theorem f306_nt : Tryz.f306.ntmps = 67 := by kernel_rfl
@[go_sem] theorem f307_en : entersB Tryz.prog 307 = true := by kernel_rfl
@[go_sem] theorem f307_rs : Tryz.f307.results.toList = [.tmp 8, .tmp 9] := by kernel_rfl
@[go_sem] theorem f307_nt : Tryz.f307.ntmps = 63 := by kernel_rfl
@[go_sem] theorem f308_en : entersB Tryz.prog 308 = true := by kernel_rfl
@[go_sem] theorem f308_rs : Tryz.f308.results.toList = [] := by kernel_rfl
@[go_sem] theorem f308_nt : Tryz.f308.ntmps = 34 := by kernel_rfl
@[go_sem] theorem f309_en : entersB Tryz.prog 309 = true := by kernel_rfl
@[go_sem] theorem f309_rs : Tryz.f309.results.toList = [.tmp 8] := by kernel_rfl
@[go_sem] theorem f309_nt : Tryz.f309.ntmps = 141 := by kernel_rfl
@[go_sem] theorem f310_en : entersB Tryz.prog 310 = true := by kernel_rfl
@[go_sem] theorem f310_rs : Tryz.f310.results.toList = [.tmp 10] := by kernel_rfl
@[go_sem] theorem f310_nt : Tryz.f310.ntmps = 90 := by kernel_rfl
@[go_sem] theorem f311_en : entersB Tryz.prog 311 = true := by kernel_rfl
@[go_sem] theorem f311_rs : Tryz.f311.results.toList = [.tmp 10, .tmp 11] := by kernel_rfl
@[go_sem] theorem f311_nt : Tryz.f311.ntmps = 178 := by kernel_rfl
@[go_sem] theorem f312_en : entersB Tryz.prog 312 = true := by kernel_rfl
@[go_sem] theorem f312_rs : Tryz.f312.results.toList = [] := by kernel_rfl
@[go_sem] theorem f312_nt : Tryz.f312.ntmps = 58 := by kernel_rfl
@[go_sem] theorem f313_en : entersB Tryz.prog 313 = true := by kernel_rfl
@[go_sem] theorem f313_rs : Tryz.f313.results.toList = [] := by kernel_rfl
@[go_sem] theorem f313_nt : Tryz.f313.ntmps = 82 := by kernel_rfl
@[go_sem] theorem f314_en : entersB Tryz.prog 314 = true := by kernel_rfl
@[go_sem] theorem f314_rs : Tryz.f314.results.toList = [.tmp 2] := by kernel_rfl
@[go_sem] theorem f314_nt : Tryz.f314.ntmps = 7 := by kernel_rfl
@[go_sem] theorem f315_en : entersB Tryz.prog 315 = true := by kernel_rfl
@[go_sem] theorem f315_rs : Tryz.f315.results.toList = [.tmp 2] := by kernel_rfl
@[go_sem] theorem f315_nt : Tryz.f315.ntmps = 33 := by kernel_rfl
@[go_sem] theorem f316_en : entersB Tryz.prog 316 = true := by kernel_rfl
@[go_sem] theorem f316_rs : Tryz.f316.results.toList = [.tmp 8] := by kernel_rfl
@[go_sem] theorem f316_nt : Tryz.f316.ntmps = 18 := by kernel_rfl
@[go_sem] theorem f317_en : entersB Tryz.prog 317 = true := by kernel_rfl
@[go_sem] theorem f317_rs : Tryz.f317.results.toList = [.tmp 12] := by kernel_rfl
@[go_sem] theorem f317_nt : Tryz.f317.ntmps = 41 := by kernel_rfl
@[go_sem] theorem f318_en : entersB Tryz.prog 318 = true := by kernel_rfl
@[go_sem] theorem f318_rs : Tryz.f318.results.toList = [.tmp 4] := by kernel_rfl
@[go_sem] theorem f318_nt : Tryz.f318.ntmps = 13 := by kernel_rfl
@[go_sem] theorem f319_en : entersB Tryz.prog 319 = true := by kernel_rfl
@[go_sem] theorem f319_rs : Tryz.f319.results.toList = [] := by kernel_rfl
@[go_sem] theorem f319_nt : Tryz.f319.ntmps = 134 := by kernel_rfl
@[go_sem] theorem f320_en : entersB Tryz.prog 320 = true := by kernel_rfl
@[go_sem] theorem f320_rs : Tryz.f320.results.toList = [] := by kernel_rfl
@[go_sem] theorem f320_nt : Tryz.f320.ntmps = 58 := by kernel_rfl
@[go_sem] theorem f322_en : entersB Tryz.prog 322 = true := by kernel_rfl
@[go_sem] theorem f322_rs : Tryz.f322.results.toList = [.tmp 2] := by kernel_rfl
@[go_sem] theorem f322_nt : Tryz.f322.ntmps = 6 := by kernel_rfl
@[go_sem] theorem f323_en : entersB Tryz.prog 323 = true := by kernel_rfl
@[go_sem] theorem f323_rs : Tryz.f323.results.toList = [.tmp 2] := by kernel_rfl
@[go_sem] theorem f323_nt : Tryz.f323.ntmps = 4 := by kernel_rfl
@[go_sem] theorem f324_en : entersB Tryz.prog 324 = true := by kernel_rfl
@[go_sem] theorem f324_rs : Tryz.f324.results.toList = [.tmp 2] := by kernel_rfl
@[go_sem] theorem f324_nt : Tryz.f324.ntmps = 8 := by kernel_rfl
@[go_sem] theorem f325_en : entersB Tryz.prog 325 = true := by kernel_rfl
@[go_sem] theorem f325_rs : Tryz.f325.results.toList = [.tmp 2] := by kernel_rfl
@[go_sem] theorem f325_nt : Tryz.f325.ntmps = 8 := by kernel_rfl
@[go_sem] theorem f327_en : entersB Tryz.prog 327 = true := by kernel_rfl
@[go_sem] theorem f327_rs : Tryz.f327.results.toList = [.tmp 4] := by kernel_rfl
@[go_sem] theorem f327_nt : Tryz.f327.ntmps = 21 := by kernel_rfl
@[go_sem] theorem f328_en : entersB Tryz.prog 328 = true := by kernel_rfl
@[go_sem] theorem f328_rs : Tryz.f328.results.toList = [.tmp 4] := by kernel_rfl
@[go_sem] theorem f328_nt : Tryz.f328.ntmps = 18 := by kernel_rfl
@[go_sem] theorem f330_en : entersB Tryz.prog 330 = true := by kernel_rfl
@[go_sem] theorem f330_rs : Tryz.f330.results.toList = [.tmp 2] := by kernel_rfl
@[go_sem] theorem f330_nt : Tryz.f330.ntmps = 6 := by kernel_rfl
@[go_sem] theorem f331_en : entersB Tryz.prog 331 = true := by kernel_rfl
@[go_sem] theorem f331_rs : Tryz.f331.results.toList = [.tmp 4] := by kernel_rfl
@[go_sem] theorem f331_nt : Tryz.f331.ntmps = 81 := by kernel_rfl
@[go_sem] theorem f332_en : entersB Tryz.prog 332 = true := by kernel_rfl
@[go_sem] theorem f332_rs : Tryz.f332.results.toList = [.tmp 2, .tmp 3] := by kernel_rfl
@[go_sem] theorem f332_nt : Tryz.f332.ntmps = 117 := by kernel_rfl
@[go_sem] theorem f333_en : entersB Tryz.prog 333 = true := by kernel_rfl
@[go_sem] theorem f333_rs : Tryz.f333.results.toList = [.tmp 2] := by kernel_rfl
@[go_sem] theorem f333_nt : Tryz.f333.ntmps = 5 := by kernel_rfl
@[go_sem] theorem f334_en : entersB Tryz.prog 334 = true := by kernel_rfl
@[go_sem] theorem f334_rs : Tryz.f334.results.toList = [.tmp 2] := by kernel_rfl
@[go_sem] theorem f334_nt : Tryz.f334.ntmps = 94 := by kernel_rfl
@[go_sem] theorem f335_en : entersB Tryz.prog 335 = true := by kernel_rfl
@[go_sem] theorem f335_rs : Tryz.f335.results.toList = [.tmp 4] := by kernel_rfl
@[go_sem] theorem f335_nt : Tryz.f335.ntmps = 9 := by kernel_rfl
@[go_sem] theorem f336_en : entersB Tryz.prog 336 = true := by kernel_rfl
@[go_sem] theorem f336_rs : Tryz.f336.results.toList = [] := by kernel_rfl
@[go_sem] theorem f336_nt : Tryz.f336.ntmps = 42 := by kernel_rfl
@[go_sem] theorem f337_en : entersB Tryz.prog 337 = true := by kernel_rfl
@[go_sem] theorem f337_rs : Tryz.f337.results.toList = [.tmp 2] := by kernel_rfl
@[go_sem] theorem f337_nt : Tryz.f337.ntmps = 7 := by kernel_rfl
@[go_sem] theorem f339_en : entersB Tryz.prog 339 = true := by kernel_rfl
@[go_sem] theorem f339_rs : Tryz.f339.results.toList = [] := by kernel_rfl
@[go_sem] theorem f339_nt : Tryz.f339.ntmps = 82 := by kernel_rfl
@[go_sem] theorem f340_en : entersB Tryz.prog 340 = true := by kernel_rfl
@[go_sem] theorem f340_rs : Tryz.f340.results.toList = [.tmp 8] := by kernel_rfl
@[go_sem] theorem f340_nt : Tryz.f340.ntmps = 18 := by kernel_rfl
@[go_sem] theorem f341_en : entersB Tryz.prog 341 = true := by kernel_rfl
@[go_sem] theorem f341_rs : Tryz.f341.results.toList = [.tmp 12] := by kernel_rfl
@[go_sem] theorem f341_nt : Tryz.f341.ntmps = 41 := by kernel_rfl
@[go_sem] theorem f342_en : entersB Tryz.prog 342 = true := by kernel_rfl
@[go_sem] theorem f342_rs : Tryz.f342.results.toList = [] := by kernel_rfl
@[go_sem] theorem f342_nt : Tryz.f342.ntmps = 38 := by kernel_rfl
@[go_sem] theorem f343_en : entersB Tryz.prog 343 = true := by kernel_rfl
@[go_sem] theorem f343_rs : Tryz.f343.results.toList = [.tmp 10, .tmp 11] := by kernel_rfl
@[go_sem] theorem f343_nt : Tryz.f343.ntmps = 32 := by kernel_rfl
@[go_sem] theorem f344_en : entersB Tryz.prog 344 = true := by kernel_rfl
@[go_sem] theorem f344_rs : Tryz.f344.results.toList = [] := by kernel_rfl
@[go_sem] theorem f344_nt : Tryz.f344.ntmps = 49 := by kernel_rfl
@[go_sem] theorem f345_en : entersB Tryz.prog 345 = true := by kernel_rfl
@[go_sem] theorem f345_rs : Tryz.f345.results.toList = [] := by kernel_rfl
@[go_sem] theorem f345_nt : Tryz.f345.ntmps = 56 := by kernel_rfl
@[go_sem] theorem f346_en : entersB Tryz.prog 346 = true := by kernel_rfl
@[go_sem] theorem f346_rs : Tryz.f346.results.toList = [] := by kernel_rfl
@[go_sem] theorem f346_nt : Tryz.f346.ntmps = 65 := by kernel_rfl
@[go_sem] theorem f347_en : entersB Tryz.prog 347 = true := by kernel_rfl
@[go_sem] theorem f347_rs : Tryz.f347.results.toList = [.tmp 6, .tmp 7] := by kernel_rfl
@[go_sem] theorem f347_nt : Tryz.f347.ntmps = 57 := by kernel_rfl
@[go_sem] theorem f348_en : entersB Tryz.prog 348 = true := by kernel_rfl
@[go_sem] theorem f348_rs : Tryz.f348.results.toList = [] := by kernel_rfl
@[go_sem] theorem f348_nt : Tryz.f348.ntmps = 32 := by kernel_rfl
@[go_sem] theorem f349_en : entersB Tryz.prog 349 = true := by kernel_rfl
@[go_sem] theorem f349_rs : Tryz.f349.results.toList = [.tmp 6] := by kernel_rfl
@[go_sem] theorem f349_nt : Tryz.f349.ntmps = 133 := by kernel_rfl
@[go_sem] theorem f350_en : entersB Tryz.prog 350 = true := by kernel_rfl
@[go_sem] theorem f350_rs : Tryz.f350.results.toList = [.tmp 4] := by kernel_rfl
@[go_sem] theorem f350_nt : Tryz.f350.ntmps = 17 := by kernel_rfl
@[go_sem] theorem f351_en : entersB Tryz.prog 351 = true := by kernel_rfl
@[go_sem] theorem f351_rs : Tryz.f351.results.toList = [.tmp 8] := by kernel_rfl
@[go_sem] theorem f351_nt : Tryz.f351.ntmps = 84 := by kernel_rfl
@[go_sem] theorem f352_en : entersB Tryz.prog 352 = true := by kernel_rfl
@[go_sem] theorem f352_rs : Tryz.f352.results.toList = [.tmp 8, .tmp 9] := by kernel_rfl
@[go_sem] theorem f352_nt : Tryz.f352.ntmps = 168 := by kernel_rfl
@[go_sem] theorem f353_en : entersB Tryz.prog 353 = true := by kernel_rfl
@[go_sem] theorem f353_rs : Tryz.f353.results.toList = [] := by kernel_rfl
@[go_sem] theorem f353_nt : Tryz.f353.ntmps = 38 := by kernel_rfl
@[go_sem] theorem f354_en : entersB Tryz.prog 354 = true := by kernel_rfl
@[go_sem] theorem f354_rs : Tryz.f354.results.toList = [.tmp 2] := by kernel_rfl
@[go_sem] theorem f354_nt : Tryz.f354.ntmps = 14 := by kernel_rfl
@[go_sem] theorem f355_en : entersB Tryz.prog 355 = true := by kernel_rfl
@[go_sem] theorem f355_rs : Tryz.f355.results.toList = [.tmp 2] := by kernel_rfl
@[go_sem] theorem f355_nt : Tryz.f355.ntmps = 14 := by kernel_rfl
@[go_sem] theorem f356_en : entersB Tryz.prog 356 = true := by kernel_rfl
@[go_sem] theorem f356_rs : Tryz.f356.results.toList = [.tmp 2, .tmp 3] := by kernel_rfl
@[go_sem] theorem f356_nt : Tryz.f356.ntmps = 39 := by kernel_rfl
@[go_sem] theorem f357_en : entersB Tryz.prog 357 = true := by kernel_rfl
@[go_sem] theorem f357_rs : Tryz.f357.results.toList = [.tmp 2] := by kernel_rfl
@[go_sem] theorem f357_nt : Tryz.f357.ntmps = 87 := by kernel_rfl
@[go_sem] theorem f358_en : entersB Tryz.prog 358 = true := by kernel_rfl
@[go_sem] theorem f358_rs : Tryz.f358.results.toList = [.tmp 10, .tmp 11] := by kernel_rfl
@[go_sem] theorem f358_nt : Tryz.f358.ntmps = 32 := by kernel_rfl
@[go_sem] theorem f359_en : entersB Tryz.prog 359 = true := by kernel_rfl
@[go_sem] theorem f359_rs : Tryz.f359.results.toList = [] := by kernel_rfl
@[go_sem] theorem f359_nt : Tryz.f359.ntmps = 76 := by kernel_rfl
@[go_sem] theorem f360_en : entersB Tryz.prog 360 = true := by kernel_rfl
@[go_sem] theorem f360_rs : Tryz.f360.results.toList = [.tmp 6] := by kernel_rfl
@[go_sem] theorem f360_nt : Tryz.f360.ntmps = 15 := by kernel_rfl
@[go_sem] theorem f361_en : entersB Tryz.prog 361 = true := by kernel_rfl
@[go_sem] theorem f361_rs : Tryz.f361.results.toList = [.tmp 10] := by kernel_rfl
@[go_sem] theorem f361_nt : Tryz.f361.ntmps = 36 := by kernel_rfl
@[go_sem] theorem f362_en : entersB Tryz.prog 362 = true := by kernel_rfl
@[go_sem] theorem f362_rs : Tryz.f362.results.toList = [.tmp 4] := by kernel_rfl
@[go_sem] theorem f362_nt : Tryz.f362.ntmps = 20 := by kernel_rfl
@[go_sem] theorem f363_en : entersB Tryz.prog 363 = true := by kernel_rfl
@[go_sem] theorem f363_rs : Tryz.f363.results.toList = [.tmp 2] := by kernel_rfl
@[go_sem] theorem f363_nt : Tryz.f363.ntmps = 26 := by kernel_rfl
@[go_sem] theorem f364_en : entersB Tryz.prog 364 = true := by kernel_rfl
@[go_sem] theorem f364_rs : Tryz.f364.results.toList = [.tmp 4] := by kernel_rfl
@[go_sem] theorem f364_nt : Tryz.f364.ntmps = 62 := by kernel_rfl
@[go_sem] theorem f365_en : entersB Tryz.prog 365 = true := by kernel_rfl
@[go_sem] theorem f365_rs : Tryz.f365.results.toList = [.tmp 2] := by kernel_rfl
@[go_sem] theorem f365_nt : Tryz.f365.ntmps = 12 := by kernel_rfl
@[go_sem] theorem f366_en : entersB Tryz.prog 366 = true := by kernel_rfl
@[go_sem] theorem f366_rs : Tryz.f366.results.toList = [.tmp 4] := by kernel_rfl
@[go_sem] theorem f366_nt : Tryz.f366.ntmps = 44 := by kernel_rfl
@[go_sem] theorem f367_en : entersB Tryz.prog 367 = true := by kernel_rfl
@[go_sem] theorem f367_rs : Tryz.f367.results.toList = [.tmp 8, .tmp 9] := by kernel_rfl
@[go_sem] theorem f367_nt : Tryz.f367.ntmps = 28 := by kernel_rfl
@[go_sem] theorem f368_en : entersB Tryz.prog 368 = true := by kernel_rfl
@[go_sem] theorem f368_rs : Tryz.f368.results.toList = [] := by kernel_rfl
@[go_sem] theorem f368_nt : Tryz.f368.ntmps = 19 := by kernel_rfl
@[go_sem] theorem f400_en : entersB Tryz.prog 400 = true := by kernel_rfl
@[go_sem] theorem f400_rs : Tryz.f400.results.toList = [] := by kernel_rfl
@[go_sem] theorem f400_nt : Tryz.f400.ntmps = 11 := by kernel_rfl
@[go_sem] theorem f0_en : entersB Tryz.prog 0 = false := by kernel_rfl
@[go_sem] theorem f1_en : entersB Tryz.prog 1 = false := by kernel_rfl
@[go_sem] theorem f224_en : entersB Tryz.prog 224 = false := by kernel_rfl
@[go_sem] theorem f288_en : entersB Tryz.prog 288 = false := by kernel_rfl
@[go_sem] theorem f321_en : entersB Tryz.prog 321 = false := by kernel_rfl
@[go_sem] theorem f326_en : entersB Tryz.prog 326 = false := by kernel_rfl
@[go_sem] theorem f329_en : entersB Tryz.prog 329 = false := by kernel_rfl
@[go_sem] theorem f338_en : entersB Tryz.prog 338 = false := by kernel_rfl
@[go_sem] theorem f369_en : entersB Tryz.prog 369 = false := by kernel_rfl
@[go_sem] theorem f370_en : entersB Tryz.prog 370 = false := by kernel_rfl
@[go_sem] theorem f371_en : entersB Tryz.prog 371 = false := by kernel_rfl
@[go_sem] theorem f372_en : entersB Tryz.prog 372 = false := by kernel_rfl
@[go_sem] theorem f373_en : entersB Tryz.prog 373 = false := by kernel_rfl
@[go_sem] theorem f374_en : entersB Tryz.prog 374 = false := by kernel_rfl
@[go_sem] theorem f375_en : entersB Tryz.prog 375 = false := by kernel_rfl
@[go_sem] theorem f376_en : entersB Tryz.prog 376 = false := by kernel_rfl
@[go_sem] theorem f377_en : entersB Tryz.prog 377 = false := by kernel_rfl
@[go_sem] theorem f378_en : entersB Tryz.prog 378 = false := by kernel_rfl
@[go_sem] theorem f379_en : entersB Tryz.prog 379 = false := by kernel_rfl
@[go_sem] theorem f380_en : entersB Tryz.prog 380 = false := by kernel_rfl
@[go_sem] theorem f381_en : entersB Tryz.prog 381 = false := by kernel_rfl
@[go_sem] theorem f382_en : entersB Tryz.prog 382 = false := by kernel_rfl
@[go_sem] theorem f383_en : entersB Tryz.prog 383 = false := by kernel_rfl
@[go_sem] theorem f384_en : entersB Tryz.prog 384 = false := by kernel_rfl
@[go_sem] theorem f385_en : entersB Tryz.prog 385 = false := by kernel_rfl
@[go_sem] theorem f386_en : entersB Tryz.prog 386 = false := by kernel_rfl
@[go_sem] theorem f387_en : entersB Tryz.prog 387 = false := by kernel_rfl
@[go_sem] theorem f388_en : entersB Tryz.prog 388 = false := by kernel_rfl
@[go_sem] theorem f389_en : entersB Tryz.prog 389 = false := by kernel_rfl
@[go_sem] theorem f390_en : entersB Tryz.prog 390 = false := by kernel_rfl
@[go_sem] theorem f391_en : entersB Tryz.prog 391 = false := by kernel_rfl
@[go_sem] theorem f392_en : entersB Tryz.prog 392 = false := by kernel_rfl
@[go_sem] theorem f393_en : entersB Tryz.prog 393 = false := by kernel_rfl
@[go_sem] theorem f394_en : entersB Tryz.prog 394 = false := by kernel_rfl
@[go_sem] theorem f395_en : entersB Tryz.prog 395 = false := by kernel_rfl
@[go_sem] theorem f396_en : entersB Tryz.prog 396 = false := by kernel_rfl
@[go_sem] theorem f397_en : entersB Tryz.prog 397 = false := by kernel_rfl
@[go_sem] theorem f398_en : entersB Tryz.prog 398 = false := by kernel_rfl
@[go_sem] theorem f399_en : entersB Tryz.prog 399 = false := by kernel_rfl
end Go.Proofs.YtdcedhgkigpejaaGreatDoor
