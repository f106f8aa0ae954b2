/- Facts on the types. No condition. -/
import Derived.Test.YtnpdbnkgipkgaaaGreatDoorRows
import Derived.Test.YtnpdbnkgipkgaaaGreatDoorHCoreC
namespace Go.Proofs.YtnpdbnkgipkgaaaGreatDoor
open Go Go.RowKit
@[go_sem] theorem t3_ag : aggT Tryz.prog 3 = false := by kernel_rfl
@[go_sem] theorem t3_sz : szT Tryz.prog 3 = 1 := by kernel_rfl
@[go_sem] theorem t3_in : (Tryz.prog.info? 3).isSome = true := by kernel_rfl
@[go_sem] theorem t3_un : (Tryz.prog.underlying 3).isSome = true := by kernel_rfl
@[go_sem] theorem t3_ze : zeroT Tryz.prog 3 = some [.int .i64 0] := by kernel_rfl
@[go_sem] theorem t3_by : Tryz.prog.bytesOf 3 = 8 := by kernel_rfl
@[go_sem] theorem t4_ag : aggT Tryz.prog 4 = false := by kernel_rfl
@[go_sem] theorem t4_sz : szT Tryz.prog 4 = 1 := by kernel_rfl
@[go_sem] theorem t4_in : (Tryz.prog.info? 4).isSome = true := by kernel_rfl
@[go_sem] theorem t4_un : (Tryz.prog.underlying 4).isSome = true := by kernel_rfl
@[go_sem] theorem t4_ze : zeroT Tryz.prog 4 = some [.bool false] := by kernel_rfl
@[go_sem] theorem t4_by : Tryz.prog.bytesOf 4 = 1 := by kernel_rfl
@[go_sem] theorem t5_ag : aggT Tryz.prog 5 = false := by kernel_rfl
@[go_sem] theorem t5_sz : szT Tryz.prog 5 = 1 := by kernel_rfl
@[go_sem] theorem t5_in : (Tryz.prog.info? 5).isSome = true := by kernel_rfl
@[go_sem] theorem t5_un : (Tryz.prog.underlying 5).isSome = true := by kernel_rfl
@[go_sem] theorem t5_ze : zeroT Tryz.prog 5 = some [.int .u8 0] := by kernel_rfl
@[go_sem] theorem t5_by : Tryz.prog.bytesOf 5 = 1 := by kernel_rfl
@[go_sem] theorem t9_ag : aggT Tryz.prog 9 = false := by kernel_rfl
@[go_sem] theorem t9_sz : szT Tryz.prog 9 = 1 := by kernel_rfl
@[go_sem] theorem t9_in : (Tryz.prog.info? 9).isSome = true := by kernel_rfl
@[go_sem] theorem t9_un : (Tryz.prog.underlying 9).isSome = true := by kernel_rfl
@[go_sem] theorem t9_ze : zeroT Tryz.prog 9 = some [.str ⟨#[]⟩] := by kernel_rfl
@[go_sem] theorem t9_by : Tryz.prog.bytesOf 9 = 16 := by kernel_rfl
@[go_sem] theorem t22_ag : aggT Tryz.prog 22 = false := by kernel_rfl
@[go_sem] theorem t22_sz : szT Tryz.prog 22 = 1 := by kernel_rfl
@[go_sem] theorem t22_in : (Tryz.prog.info? 22).isSome = true := by kernel_rfl
@[go_sem] theorem t22_un : (Tryz.prog.underlying 22).isSome = true := by kernel_rfl
@[go_sem] theorem t22_ze : zeroT Tryz.prog 22 = some [.sl none 0] := by kernel_rfl
@[go_sem] theorem t22_by : Tryz.prog.bytesOf 22 = 24 := by kernel_rfl
@[go_sem] theorem t25_ag : aggT Tryz.prog 25 = true := by kernel_rfl
@[go_sem] theorem t25_sz : szT Tryz.prog 25 = 2 := by kernel_rfl
@[go_sem] theorem t25_in : (Tryz.prog.info? 25).isSome = true := by kernel_rfl
@[go_sem] theorem t25_un : (Tryz.prog.underlying 25).isSome = true := by kernel_rfl
@[go_sem] theorem t25_ze : zeroT Tryz.prog 25 = some [.sl none 0, .int .i64 0] := by kernel_rfl
@[go_sem] theorem t25_by : Tryz.prog.bytesOf 25 = 32 := by kernel_rfl
@[go_sem] theorem t25_fo : fieldsOk Tryz.prog 25 = true := by kernel_rfl
@[go_sem] theorem t29_ag : aggT Tryz.prog 29 = false := by kernel_rfl
@[go_sem] theorem t29_sz : szT Tryz.prog 29 = 1 := by kernel_rfl
@[go_sem] theorem t29_in : (Tryz.prog.info? 29).isSome = true := by kernel_rfl
@[go_sem] theorem t29_un : (Tryz.prog.underlying 29).isSome = true := by kernel_rfl
@[go_sem] theorem t29_ze : zeroT Tryz.prog 29 = some [.int .i64 0] := by kernel_rfl
@[go_sem] theorem t29_by : Tryz.prog.bytesOf 29 = 8 := by kernel_rfl
@[go_sem] theorem t32_ag : aggT Tryz.prog 32 = false := by kernel_rfl
@[go_sem] theorem t32_sz : szT Tryz.prog 32 = 1 := by kernel_rfl
@[go_sem] theorem t32_in : (Tryz.prog.info? 32).isSome = true := by kernel_rfl
@[go_sem] theorem t32_un : (Tryz.prog.underlying 32).isSome = true := by kernel_rfl
@[go_sem] theorem t32_ze : zeroT Tryz.prog 32 = some [.sl none 0] := by kernel_rfl
@[go_sem] theorem t32_by : Tryz.prog.bytesOf 32 = 24 := by kernel_rfl
@[go_sem] theorem t40_ag : aggT Tryz.prog 40 = true := by kernel_rfl
@[go_sem] theorem t40_sz : szT Tryz.prog 40 = 3 := by kernel_rfl
@[go_sem] theorem t40_in : (Tryz.prog.info? 40).isSome = true := by kernel_rfl
@[go_sem] theorem t40_un : (Tryz.prog.underlying 40).isSome = true := by kernel_rfl
@[go_sem] theorem t40_ze : zeroT Tryz.prog 40 = some [.int .i64 0, .int .i64 0, .int .i64 0] := by kernel_rfl
@[go_sem] theorem t40_by : Tryz.prog.bytesOf 40 = 24 := by kernel_rfl
@[go_sem] theorem t40_fo : fieldsOk Tryz.prog 40 = true := by kernel_rfl
@[go_sem] theorem t42_ag : aggT Tryz.prog 42 = true := by kernel_rfl
@[go_sem] theorem t42_sz : szT Tryz.prog 42 = 5 := by kernel_rfl
@[go_sem] theorem t42_in : (Tryz.prog.info? 42).isSome = true := by kernel_rfl
@[go_sem] theorem t42_un : (Tryz.prog.underlying 42).isSome = true := by kernel_rfl
@[go_sem] theorem t42_ze : zeroT Tryz.prog 42 = some [.int .i64 0, .str ⟨#[]⟩, .int .i64 0, .int .i64 0, .int .i64 0] := by kernel_rfl
@[go_sem] theorem t42_by : Tryz.prog.bytesOf 42 = 48 := by kernel_rfl
@[go_sem] theorem t42_fo : fieldsOk Tryz.prog 42 = true := by kernel_rfl
@[go_sem] theorem t45_ag : aggT Tryz.prog 45 = true := by kernel_rfl
@[go_sem] theorem t45_sz : szT Tryz.prog 45 = 2 := by kernel_rfl
@[go_sem] theorem t45_in : (Tryz.prog.info? 45).isSome = true := by kernel_rfl
@[go_sem] theorem t45_un : (Tryz.prog.underlying 45).isSome = true := by kernel_rfl
@[go_sem] theorem t45_ze : zeroT Tryz.prog 45 = some [.int .i64 0, .int .i64 0] := by kernel_rfl
@[go_sem] theorem t45_by : Tryz.prog.bytesOf 45 = 16 := by kernel_rfl
@[go_sem] theorem t45_fo : fieldsOk Tryz.prog 45 = true := by kernel_rfl
@[go_sem] theorem t50_ag : aggT Tryz.prog 50 = false := by kernel_rfl
@[go_sem] theorem t50_sz : szT Tryz.prog 50 = 1 := by kernel_rfl
@[go_sem] theorem t50_in : (Tryz.prog.info? 50).isSome = true := by kernel_rfl
@[go_sem] theorem t50_un : (Tryz.prog.underlying 50).isSome = true := by kernel_rfl
@[go_sem] theorem t50_ze : zeroT Tryz.prog 50 = some [.sl none 0] := by kernel_rfl
@[go_sem] theorem t50_by : Tryz.prog.bytesOf 50 = 24 := by kernel_rfl
@[go_sem] theorem t54_ag : aggT Tryz.prog 54 = true := by kernel_rfl
@[go_sem] theorem t54_sz : szT Tryz.prog 54 = 7 := by kernel_rfl
@[go_sem] theorem t54_in : (Tryz.prog.info? 54).isSome = true := by kernel_rfl
@[go_sem] theorem t54_un : (Tryz.prog.underlying 54).isSome = true := by kernel_rfl
@[go_sem] theorem t54_ze : zeroT Tryz.prog 54 = some [.int .i64 0, .int .i64 0, .int .i64 0, .str ⟨#[]⟩, .int .i64 0, .int .i64 0, .int .i64 0] := by kernel_rfl
@[go_sem] theorem t54_by : Tryz.prog.bytesOf 54 = 64 := by kernel_rfl
@[go_sem] theorem t54_fo : fieldsOk Tryz.prog 54 = true := by kernel_rfl
@[go_sem] theorem t66_ag : aggT Tryz.prog 66 = false := by kernel_rfl
@[go_sem] theorem t66_sz : szT Tryz.prog 66 = 1 := by kernel_rfl
@[go_sem] theorem t66_in : (Tryz.prog.info? 66).isSome = true := by kernel_rfl
@[go_sem] theorem t66_un : (Tryz.prog.underlying 66).isSome = true := by kernel_rfl
@[go_sem] theorem t66_ze : zeroT Tryz.prog 66 = some [.sl none 0] := by kernel_rfl
@[go_sem] theorem t66_by : Tryz.prog.bytesOf 66 = 24 := by kernel_rfl
@[go_sem] theorem t76_ag : aggT Tryz.prog 76 = true := by kernel_rfl
@[go_sem] theorem t76_sz : szT Tryz.prog 76 = 7 := by kernel_rfl
@[go_sem] theorem t76_in : (Tryz.prog.info? 76).isSome = true := by kernel_rfl
@[go_sem] theorem t76_un : (Tryz.prog.underlying 76).isSome = true := by kernel_rfl
@[go_sem] theorem t76_ze : zeroT Tryz.prog 76 = some [.str ⟨#[]⟩, .int .i64 0, .int .i64 0, .str ⟨#[]⟩, .int .i64 0, .int .i64 0, .int .i64 0] := by kernel_rfl
@[go_sem] theorem t76_by : Tryz.prog.bytesOf 76 = 72 := by kernel_rfl
@[go_sem] theorem t76_fo : fieldsOk Tryz.prog 76 = true := by kernel_rfl
@[go_sem] theorem t82_ag : aggT Tryz.prog 82 = false := by kernel_rfl
@[go_sem] theorem t82_sz : szT Tryz.prog 82 = 1 := by kernel_rfl
@[go_sem] theorem t82_in : (Tryz.prog.info? 82).isSome = true := by kernel_rfl
@[go_sem] theorem t82_un : (Tryz.prog.underlying 82).isSome = true := by kernel_rfl
@[go_sem] theorem t82_ze : zeroT Tryz.prog 82 = some [.sl none 0] := by kernel_rfl
@[go_sem] theorem t82_by : Tryz.prog.bytesOf 82 = 24 := by kernel_rfl
@[go_sem] theorem t83_ag : aggT Tryz.prog 83 = false := by kernel_rfl
@[go_sem] theorem t83_sz : szT Tryz.prog 83 = 1 := by kernel_rfl
@[go_sem] theorem t83_in : (Tryz.prog.info? 83).isSome = true := by kernel_rfl
@[go_sem] theorem t83_un : (Tryz.prog.underlying 83).isSome = true := by kernel_rfl
@[go_sem] theorem t83_ze : zeroT Tryz.prog 83 = some [.map none] := by kernel_rfl
@[go_sem] theorem t83_by : Tryz.prog.bytesOf 83 = 8 := by kernel_rfl
@[go_sem] theorem t85_ag : aggT Tryz.prog 85 = true := by kernel_rfl
@[go_sem] theorem t85_sz : szT Tryz.prog 85 = 11 := by kernel_rfl
@[go_sem] theorem t85_in : (Tryz.prog.info? 85).isSome = true := by kernel_rfl
@[go_sem] theorem t85_un : (Tryz.prog.underlying 85).isSome = true := by kernel_rfl
@[go_sem] theorem t85_ze : zeroT Tryz.prog 85 = some [.int .i64 0, .int .i64 0, .int .i64 0, .sl none 0, .map none, .int .i64 0, .sl none 0, .sl none 0, .sl none 0, .sl none 0, .int .i64 0] := by kernel_rfl
@[go_sem] theorem t85_by : Tryz.prog.bytesOf 85 = 168 := by kernel_rfl
@[go_sem] theorem t85_fo : fieldsOk Tryz.prog 85 = true := by kernel_rfl
@[go_sem] theorem t89_ag : aggT Tryz.prog 89 = true := by kernel_rfl
@[go_sem] theorem t89_sz : szT Tryz.prog 89 = 6 := by kernel_rfl
@[go_sem] theorem t89_in : (Tryz.prog.info? 89).isSome = true := by kernel_rfl
@[go_sem] theorem t89_un : (Tryz.prog.underlying 89).isSome = true := by kernel_rfl
@[go_sem] theorem t89_ze : zeroT Tryz.prog 89 = some [.int .i64 0, .str ⟨#[]⟩, .int .i64 0, .int .i64 0, .int .i64 0, .bool false] := by kernel_rfl
@[go_sem] theorem t89_by : Tryz.prog.bytesOf 89 = 56 := by kernel_rfl
@[go_sem] theorem t89_fo : fieldsOk Tryz.prog 89 = true := by kernel_rfl
@[go_sem] theorem t103_ag : aggT Tryz.prog 103 = false := by kernel_rfl
@[go_sem] theorem t103_sz : szT Tryz.prog 103 = 1 := by kernel_rfl
@[go_sem] theorem t103_in : (Tryz.prog.info? 103).isSome = true := by kernel_rfl
@[go_sem] theorem t103_un : (Tryz.prog.underlying 103).isSome = true := by kernel_rfl
@[go_sem] theorem t103_ze : zeroT Tryz.prog 103 = some [.sl none 0] := by kernel_rfl
@[go_sem] theorem t103_by : Tryz.prog.bytesOf 103 = 24 := by kernel_rfl
@[go_sem] theorem t104_ag : aggT Tryz.prog 104 = false := by kernel_rfl
@[go_sem] theorem t104_sz : szT Tryz.prog 104 = 1 := by kernel_rfl
@[go_sem] theorem t104_in : (Tryz.prog.info? 104).isSome = true := by kernel_rfl
@[go_sem] theorem t104_un : (Tryz.prog.underlying 104).isSome = true := by kernel_rfl
@[go_sem] theorem t104_ze : zeroT Tryz.prog 104 = some [.ptr none] := by kernel_rfl
@[go_sem] theorem t104_by : Tryz.prog.bytesOf 104 = 8 := by kernel_rfl
@[go_sem] theorem t109_ag : aggT Tryz.prog 109 = true := by kernel_rfl
@[go_sem] theorem t109_sz : szT Tryz.prog 109 = 2 := by kernel_rfl
@[go_sem] theorem t109_in : (Tryz.prog.info? 109).isSome = true := by kernel_rfl
@[go_sem] theorem t109_un : (Tryz.prog.underlying 109).isSome = true := by kernel_rfl
@[go_sem] theorem t109_ze : zeroT Tryz.prog 109 = some [.int .i64 0, .int .i64 0] := by kernel_rfl
@[go_sem] theorem t109_by : Tryz.prog.bytesOf 109 = 16 := by kernel_rfl
@[go_sem] theorem t109_fo : fieldsOk Tryz.prog 109 = true := by kernel_rfl
@[go_sem] theorem t111_ag : aggT Tryz.prog 111 = false := by kernel_rfl
@[go_sem] theorem t111_sz : szT Tryz.prog 111 = 1 := by kernel_rfl
@[go_sem] theorem t111_in : (Tryz.prog.info? 111).isSome = true := by kernel_rfl
@[go_sem] theorem t111_un : (Tryz.prog.underlying 111).isSome = true := by kernel_rfl
@[go_sem] theorem t111_ze : zeroT Tryz.prog 111 = some [.nilf] := by kernel_rfl
@[go_sem] theorem t111_by : Tryz.prog.bytesOf 111 = 8 := by kernel_rfl
@[go_sem] theorem t131_ag : aggT Tryz.prog 131 = true := by kernel_rfl
@[go_sem] theorem t131_sz : szT Tryz.prog 131 = 3 := by kernel_rfl
@[go_sem] theorem t131_in : (Tryz.prog.info? 131).isSome = true := by kernel_rfl
@[go_sem] theorem t131_un : (Tryz.prog.underlying 131).isSome = true := by kernel_rfl
@[go_sem] theorem t131_ze : zeroT Tryz.prog 131 = some [.int .i64 0, .int .i64 0, .str ⟨#[]⟩] := by kernel_rfl
@[go_sem] theorem t131_by : Tryz.prog.bytesOf 131 = 32 := by kernel_rfl
@[go_sem] theorem t131_fo : fieldsOk Tryz.prog 131 = true := by kernel_rfl
@[go_sem] theorem t133_ag : aggT Tryz.prog 133 = true := by kernel_rfl
@[go_sem] theorem t133_sz : szT Tryz.prog 133 = 7 := by kernel_rfl
@[go_sem] theorem t133_in : (Tryz.prog.info? 133).isSome = true := by kernel_rfl
@[go_sem] theorem t133_un : (Tryz.prog.underlying 133).isSome = true := by kernel_rfl
@[go_sem] theorem t133_ze : zeroT Tryz.prog 133 = some [.str ⟨#[]⟩, .int .i64 0, .int .i64 0, .str ⟨#[]⟩, .int .i64 0, .int .i64 0, .int .i64 0] := by kernel_rfl
@[go_sem] theorem t133_by : Tryz.prog.bytesOf 133 = 72 := by kernel_rfl
@[go_sem] theorem t133_fo : fieldsOk Tryz.prog 133 = true := by kernel_rfl
@[go_sem] theorem t137_ag : aggT Tryz.prog 137 = true := by kernel_rfl
@[go_sem] theorem t137_sz : szT Tryz.prog 137 = 2 := by kernel_rfl
@[go_sem] theorem t137_in : (Tryz.prog.info? 137).isSome = true := by kernel_rfl
@[go_sem] theorem t137_un : (Tryz.prog.underlying 137).isSome = true := by kernel_rfl
@[go_sem] theorem t137_ze : zeroT Tryz.prog 137 = some [.str ⟨#[]⟩, .sl none 0] := by kernel_rfl
@[go_sem] theorem t137_by : Tryz.prog.bytesOf 137 = 40 := by kernel_rfl
@[go_sem] theorem t137_fo : fieldsOk Tryz.prog 137 = true := by kernel_rfl
@[go_sem] theorem t138_ag : aggT Tryz.prog 138 = false := by kernel_rfl
@[go_sem] theorem t138_sz : szT Tryz.prog 138 = 1 := by kernel_rfl
@[go_sem] theorem t138_in : (Tryz.prog.info? 138).isSome = true := by kernel_rfl
@[go_sem] theorem t138_un : (Tryz.prog.underlying 138).isSome = true := by kernel_rfl
@[go_sem] theorem t138_ze : zeroT Tryz.prog 138 = some [.sl none 0] := by kernel_rfl
@[go_sem] theorem t138_by : Tryz.prog.bytesOf 138 = 24 := by kernel_rfl
@[go_sem] theorem t140_ag : aggT Tryz.prog 140 = true := by kernel_rfl
@[go_sem] theorem t140_sz : szT Tryz.prog 140 = 5 := by kernel_rfl
@[go_sem] theorem t140_in : (Tryz.prog.info? 140).isSome = true := by kernel_rfl
@[go_sem] theorem t140_un : (Tryz.prog.underlying 140).isSome = true := by kernel_rfl
@[go_sem] theorem t140_ze : zeroT Tryz.prog 140 = some [.str ⟨#[]⟩, .int .i64 0, .str ⟨#[]⟩, .sl none 0, .bool false] := by kernel_rfl
@[go_sem] theorem t140_by : Tryz.prog.bytesOf 140 = 72 := by kernel_rfl
@[go_sem] theorem t140_fo : fieldsOk Tryz.prog 140 = true := by kernel_rfl
@[go_sem] theorem t152_ag : aggT Tryz.prog 152 = true := by kernel_rfl
@[go_sem] theorem t152_sz : szT Tryz.prog 152 = 6 := by kernel_rfl
@[go_sem] theorem t152_in : (Tryz.prog.info? 152).isSome = true := by kernel_rfl
@[go_sem] theorem t152_un : (Tryz.prog.underlying 152).isSome = true := by kernel_rfl
@[go_sem] theorem t152_ze : zeroT Tryz.prog 152 = some [.int .i64 0, .int .i64 0, .int .i64 0, .int .i64 0, .int .i64 0, .int .i64 0] := by kernel_rfl
@[go_sem] theorem t152_by : Tryz.prog.bytesOf 152 = 48 := by kernel_rfl
@[go_sem] theorem t152_fo : fieldsOk Tryz.prog 152 = true := by kernel_rfl
@[go_sem] theorem t167_ag : aggT Tryz.prog 167 = false := by kernel_rfl
@[go_sem] theorem t167_sz : szT Tryz.prog 167 = 1 := by kernel_rfl
@[go_sem] theorem t167_in : (Tryz.prog.info? 167).isSome = true := by kernel_rfl
@[go_sem] theorem t167_un : (Tryz.prog.underlying 167).isSome = true := by kernel_rfl
@[go_sem] theorem t167_ze : zeroT Tryz.prog 167 = some [.int .u64 0] := by kernel_rfl
@[go_sem] theorem t167_by : Tryz.prog.bytesOf 167 = 8 := by kernel_rfl
@[go_sem] theorem t185_ag : aggT Tryz.prog 185 = false := by kernel_rfl
@[go_sem] theorem t185_sz : szT Tryz.prog 185 = 1 := by kernel_rfl
@[go_sem] theorem t185_in : (Tryz.prog.info? 185).isSome = true := by kernel_rfl
@[go_sem] theorem t185_un : (Tryz.prog.underlying 185).isSome = true := by kernel_rfl
@[go_sem] theorem t185_ze : zeroT Tryz.prog 185 = some [.int .u64 0] := by kernel_rfl
@[go_sem] theorem t185_by : Tryz.prog.bytesOf 185 = 8 := by kernel_rfl
@[go_sem] theorem t194_ag : aggT Tryz.prog 194 = true := by kernel_rfl
@[go_sem] theorem t194_sz : szT Tryz.prog 194 = 2 := by kernel_rfl
@[go_sem] theorem t194_in : (Tryz.prog.info? 194).isSome = true := by kernel_rfl
@[go_sem] theorem t194_un : (Tryz.prog.underlying 194).isSome = true := by kernel_rfl
@[go_sem] theorem t194_ze : zeroT Tryz.prog 194 = some [.str ⟨#[]⟩, .int .i64 0] := by kernel_rfl
@[go_sem] theorem t194_by : Tryz.prog.bytesOf 194 = 24 := by kernel_rfl
@[go_sem] theorem t194_fo : fieldsOk Tryz.prog 194 = true := by kernel_rfl
@[go_sem] theorem t203_ag : aggT Tryz.prog 203 = false := by kernel_rfl
@[go_sem] theorem t203_sz : szT Tryz.prog 203 = 1 := by kernel_rfl
@[go_sem] theorem t203_in : (Tryz.prog.info? 203).isSome = true := by kernel_rfl
@[go_sem] theorem t203_un : (Tryz.prog.underlying 203).isSome = true := by kernel_rfl
@[go_sem] theorem t203_ze : zeroT Tryz.prog 203 = some [.nili] := by kernel_rfl
@[go_sem] theorem t203_by : Tryz.prog.bytesOf 203 = 16 := by kernel_rfl
@[go_sem] theorem t223_ag : aggT Tryz.prog 223 = true := by kernel_rfl
@[go_sem] theorem t223_sz : szT Tryz.prog 223 = 3 := by kernel_rfl
@[go_sem] theorem t223_in : (Tryz.prog.info? 223).isSome = true := by kernel_rfl
@[go_sem] theorem t223_un : (Tryz.prog.underlying 223).isSome = true := by kernel_rfl
@[go_sem] theorem t223_ze : zeroT Tryz.prog 223 = some [.str ⟨#[]⟩, .str ⟨#[]⟩, .nili] := by kernel_rfl
@[go_sem] theorem t223_by : Tryz.prog.bytesOf 223 = 48 := by kernel_rfl
@[go_sem] theorem t223_fo : fieldsOk Tryz.prog 223 = true := by kernel_rfl
@[go_sem] theorem t230_ag : aggT Tryz.prog 230 = true := by kernel_rfl
@[go_sem] theorem t230_sz : szT Tryz.prog 230 = 1 := by kernel_rfl
@[go_sem] theorem t230_in : (Tryz.prog.info? 230).isSome = true := by kernel_rfl
@[go_sem] theorem t230_un : (Tryz.prog.underlying 230).isSome = true := by kernel_rfl
@[go_sem] theorem t230_ze : zeroT Tryz.prog 230 = some [.str ⟨#[]⟩] := by kernel_rfl
@[go_sem] theorem t230_by : Tryz.prog.bytesOf 230 = 16 := by kernel_rfl
@[go_sem] theorem t230_fo : fieldsOk Tryz.prog 230 = true := by kernel_rfl
@[go_sem] theorem t25_f0 : fieldT Tryz.prog 25 0 = some (0, 1) := by kernel_rfl
@[go_sem] theorem t25_f1 : fieldT Tryz.prog 25 1 = some (1, 1) := by kernel_rfl
@[go_sem] theorem t40_f0 : fieldT Tryz.prog 40 0 = some (0, 1) := by kernel_rfl
@[go_sem] theorem t40_f1 : fieldT Tryz.prog 40 1 = some (1, 1) := by kernel_rfl
@[go_sem] theorem t40_f2 : fieldT Tryz.prog 40 2 = some (2, 1) := by kernel_rfl
@[go_sem] theorem t42_f0 : fieldT Tryz.prog 42 0 = some (0, 1) := by kernel_rfl
@[go_sem] theorem t42_f1 : fieldT Tryz.prog 42 1 = some (1, 1) := by kernel_rfl
@[go_sem] theorem t42_f2 : fieldT Tryz.prog 42 2 = some (2, 3) := by kernel_rfl
@[go_sem] theorem t45_f0 : fieldT Tryz.prog 45 0 = some (0, 1) := by kernel_rfl
@[go_sem] theorem t45_f1 : fieldT Tryz.prog 45 1 = some (1, 1) := by kernel_rfl
@[go_sem] theorem t54_f0 : fieldT Tryz.prog 54 0 = some (0, 1) := by kernel_rfl
@[go_sem] theorem t54_f1 : fieldT Tryz.prog 54 1 = some (1, 1) := by kernel_rfl
@[go_sem] theorem t54_f2 : fieldT Tryz.prog 54 2 = some (2, 1) := by kernel_rfl
@[go_sem] theorem t54_f3 : fieldT Tryz.prog 54 3 = some (3, 1) := by kernel_rfl
@[go_sem] theorem t54_f4 : fieldT Tryz.prog 54 4 = some (4, 3) := by kernel_rfl
@[go_sem] theorem t76_f0 : fieldT Tryz.prog 76 0 = some (0, 1) := by kernel_rfl
@[go_sem] theorem t76_f1 : fieldT Tryz.prog 76 1 = some (1, 1) := by kernel_rfl
@[go_sem] theorem t76_f2 : fieldT Tryz.prog 76 2 = some (2, 5) := by kernel_rfl
@[go_sem] theorem t85_f0 : fieldT Tryz.prog 85 0 = some (0, 1) := by kernel_rfl
@[go_sem] theorem t85_f1 : fieldT Tryz.prog 85 1 = some (1, 1) := by kernel_rfl
@[go_sem] theorem t85_f2 : fieldT Tryz.prog 85 2 = some (2, 1) := by kernel_rfl
@[go_sem] theorem t85_f3 : fieldT Tryz.prog 85 3 = some (3, 1) := by kernel_rfl
@[go_sem] theorem t85_f4 : fieldT Tryz.prog 85 4 = some (4, 1) := by kernel_rfl
@[go_sem] theorem t85_f5 : fieldT Tryz.prog 85 5 = some (5, 1) := by kernel_rfl
@[go_sem] theorem t85_f6 : fieldT Tryz.prog 85 6 = some (6, 1) := by kernel_rfl
@[go_sem] theorem t85_f7 : fieldT Tryz.prog 85 7 = some (7, 1) := by kernel_rfl
@[go_sem] theorem t85_f8 : fieldT Tryz.prog 85 8 = some (8, 1) := by kernel_rfl
@[go_sem] theorem t85_f9 : fieldT Tryz.prog 85 9 = some (9, 1) := by kernel_rfl
@[go_sem] theorem t85_f10 : fieldT Tryz.prog 85 10 = some (10, 1) := by kernel_rfl
@[go_sem] theorem t89_f0 : fieldT Tryz.prog 89 0 = some (0, 5) := by kernel_rfl
@[go_sem] theorem t89_f1 : fieldT Tryz.prog 89 1 = some (5, 1) := by kernel_rfl
@[go_sem] theorem t109_f0 : fieldT Tryz.prog 109 0 = some (0, 1) := by kernel_rfl
@[go_sem] theorem t109_f1 : fieldT Tryz.prog 109 1 = some (1, 1) := by kernel_rfl
@[go_sem] theorem t131_f0 : fieldT Tryz.prog 131 0 = some (0, 1) := by kernel_rfl
@[go_sem] theorem t131_f1 : fieldT Tryz.prog 131 1 = some (1, 1) := by kernel_rfl
@[go_sem] theorem t131_f2 : fieldT Tryz.prog 131 2 = some (2, 1) := by kernel_rfl
@[go_sem] theorem t133_f0 : fieldT Tryz.prog 133 0 = some (0, 1) := by kernel_rfl
@[go_sem] theorem t133_f1 : fieldT Tryz.prog 133 1 = some (1, 3) := by kernel_rfl
@[go_sem] theorem t133_f2 : fieldT Tryz.prog 133 2 = some (4, 1) := by kernel_rfl
@[go_sem] theorem t133_f3 : fieldT Tryz.prog 133 3 = some (5, 1) := by kernel_rfl
@[go_sem] theorem t133_f4 : fieldT Tryz.prog 133 4 = some (6, 1) := by kernel_rfl
@[go_sem] theorem t137_f0 : fieldT Tryz.prog 137 0 = some (0, 1) := by kernel_rfl
@[go_sem] theorem t137_f1 : fieldT Tryz.prog 137 1 = some (1, 1) := by kernel_rfl
@[go_sem] theorem t140_f0 : fieldT Tryz.prog 140 0 = some (0, 1) := by kernel_rfl
@[go_sem] theorem t140_f1 : fieldT Tryz.prog 140 1 = some (1, 1) := by kernel_rfl
@[go_sem] theorem t140_f2 : fieldT Tryz.prog 140 2 = some (2, 1) := by kernel_rfl
@[go_sem] theorem t140_f3 : fieldT Tryz.prog 140 3 = some (3, 1) := by kernel_rfl
@[go_sem] theorem t140_f4 : fieldT Tryz.prog 140 4 = some (4, 1) := by kernel_rfl
@[go_sem] theorem t152_f0 : fieldT Tryz.prog 152 0 = some (0, 1) := by kernel_rfl
@[go_sem] theorem t152_f1 : fieldT Tryz.prog 152 1 = some (1, 1) := by kernel_rfl
@[go_sem] theorem t152_f2 : fieldT Tryz.prog 152 2 = some (2, 1) := by kernel_rfl
@[go_sem] theorem t152_f3 : fieldT Tryz.prog 152 3 = some (3, 1) := by kernel_rfl
@[go_sem] theorem t152_f4 : fieldT Tryz.prog 152 4 = some (4, 1) := by kernel_rfl
@[go_sem] theorem t152_f5 : fieldT Tryz.prog 152 5 = some (5, 1) := by kernel_rfl
@[go_sem] theorem t194_f0 : fieldT Tryz.prog 194 0 = some (0, 1) := by kernel_rfl
@[go_sem] theorem t194_f1 : fieldT Tryz.prog 194 1 = some (1, 1) := by kernel_rfl
@[go_sem] theorem t223_f0 : fieldT Tryz.prog 223 0 = some (0, 1) := by kernel_rfl
@[go_sem] theorem t223_f1 : fieldT Tryz.prog 223 1 = some (1, 1) := by kernel_rfl
@[go_sem] theorem t223_f2 : fieldT Tryz.prog 223 2 = some (2, 1) := by kernel_rfl
@[go_sem] theorem t230_f0 : fieldT Tryz.prog 230 0 = some (0, 1) := by kernel_rfl
@[go_sem] theorem t9_st : strT Tryz.prog 9 = true := by kernel_rfl
@[go_sem] theorem t9_el : elemT Tryz.prog 9 = none := by kernel_rfl
@[go_sem] theorem t9_us : Tryz.prog.underlying 9 = some .string := by kernel_rfl
@[go_sem] theorem t22_el : elemT Tryz.prog 22 = some 3 := by kernel_rfl
@[go_sem] theorem t22_st : strT Tryz.prog 22 = false := by kernel_rfl
@[go_sem] theorem t26_el : elemT Tryz.prog 26 = some 54 := by kernel_rfl
@[go_sem] theorem t26_st : strT Tryz.prog 26 = false := by kernel_rfl
@[go_sem] theorem t32_el : elemT Tryz.prog 32 = some 42 := by kernel_rfl
@[go_sem] theorem t32_st : strT Tryz.prog 32 = false := by kernel_rfl
@[go_sem] theorem t35_el : elemT Tryz.prog 35 = some 45 := by kernel_rfl
@[go_sem] theorem t35_st : strT Tryz.prog 35 = false := by kernel_rfl
@[go_sem] theorem t50_el : elemT Tryz.prog 50 = some 29 := by kernel_rfl
@[go_sem] theorem t50_st : strT Tryz.prog 50 = false := by kernel_rfl
@[go_sem] theorem t66_el : elemT Tryz.prog 66 = some 40 := by kernel_rfl
@[go_sem] theorem t66_st : strT Tryz.prog 66 = false := by kernel_rfl
@[go_sem] theorem t69_el : elemT Tryz.prog 69 = some 5 := by kernel_rfl
@[go_sem] theorem t69_st : strT Tryz.prog 69 = false := by kernel_rfl
@[go_sem] theorem t77_el : elemT Tryz.prog 77 = some 76 := by kernel_rfl
@[go_sem] theorem t77_st : strT Tryz.prog 77 = false := by kernel_rfl
@[go_sem] theorem t78_el : elemT Tryz.prog 78 = some 152 := by kernel_rfl
@[go_sem] theorem t78_st : strT Tryz.prog 78 = false := by kernel_rfl
@[go_sem] theorem t82_el : elemT Tryz.prog 82 = some 89 := by kernel_rfl
@[go_sem] theorem t82_st : strT Tryz.prog 82 = false := by kernel_rfl
@[go_sem] theorem t94_el : elemT Tryz.prog 94 = some 9 := by kernel_rfl
@[go_sem] theorem t94_st : strT Tryz.prog 94 = false := by kernel_rfl
@[go_sem] theorem t103_el : elemT Tryz.prog 103 = some 137 := by kernel_rfl
@[go_sem] theorem t103_st : strT Tryz.prog 103 = false := by kernel_rfl
@[go_sem] theorem t124_el : elemT Tryz.prog 124 = some 66 := by kernel_rfl
@[go_sem] theorem t124_st : strT Tryz.prog 124 = false := by kernel_rfl
@[go_sem] theorem t138_el : elemT Tryz.prog 138 = some 104 := by kernel_rfl
@[go_sem] theorem t138_st : strT Tryz.prog 138 = false := by kernel_rfl
@[go_sem] theorem t2_un : (Tryz.prog.underlying 2).isSome = true := by kernel_rfl
@[go_sem] theorem t2_ik : intK Tryz.prog 2 = some .i64 := by kernel_rfl
@[go_sem] theorem t3_ik : intK Tryz.prog 3 = some .i64 := by kernel_rfl
@[go_sem] theorem t5_ik : intK Tryz.prog 5 = some .u8 := by kernel_rfl
@[go_sem] theorem t9_ik : intK Tryz.prog 9 = none := by kernel_rfl
@[go_sem] theorem t69_un : (Tryz.prog.underlying 69).isSome = true := by kernel_rfl
@[go_sem] theorem t69_ik : intK Tryz.prog 69 = none := by kernel_rfl
@[go_sem] theorem t128_un : (Tryz.prog.underlying 128).isSome = true := by kernel_rfl
@[go_sem] theorem t128_ik : intK Tryz.prog 128 = some .u64 := by kernel_rfl
@[go_sem] theorem t165_un : (Tryz.prog.underlying 165).isSome = true := by kernel_rfl
@[go_sem] theorem t165_ik : intK Tryz.prog 165 = some .u32 := by kernel_rfl
@[go_sem] theorem t167_ik : intK Tryz.prog 167 = some .u64 := by kernel_rfl
@[go_sem] theorem t185_ik : intK Tryz.prog 185 = some .u64 := by kernel_rfl
@[go_sem] theorem t2_bt : bytesT Tryz.prog 2 = false := by kernel_rfl
@[go_sem] theorem t3_bt : bytesT Tryz.prog 3 = false := by kernel_rfl
@[go_sem] theorem t5_bt : bytesT Tryz.prog 5 = false := by kernel_rfl
@[go_sem] theorem t9_bt : bytesT Tryz.prog 9 = false := by kernel_rfl
@[go_sem] theorem t69_bt : bytesT Tryz.prog 69 = true := by kernel_rfl
@[go_sem] theorem t128_bt : bytesT Tryz.prog 128 = false := by kernel_rfl
@[go_sem] theorem t165_bt : bytesT Tryz.prog 165 = false := by kernel_rfl
@[go_sem] theorem t167_bt : bytesT Tryz.prog 167 = false := by kernel_rfl
@[go_sem] theorem t185_bt : bytesT Tryz.prog 185 = false := by kernel_rfl
@[go_sem] theorem t9_co : conT Tryz.prog 9 = true := by kernel_rfl
@[go_sem] theorem t213_co : conT Tryz.prog 213 = true := by kernel_rfl
@[go_sem] theorem t216_co : conT Tryz.prog 216 = true := by kernel_rfl
@[go_sem] theorem t228_co : conT Tryz.prog 228 = true := by kernel_rfl
@[go_sem] theorem t109_k1 : fieldK Tryz.prog 109 1 = some (1, 1, false) := by kernel_rfl
@[go_sem] theorem t42_fk : fieldsK Tryz.prog 42 = some [(0, 1), (1, 3), (2, 1), (3, 1), (4, 1)] := by kernel_rfl
@[go_sem] theorem t54_fk : fieldsK Tryz.prog 54 = some [(0, 1), (1, 1), (2, 1), (3, 3), (4, 1), (5, 1), (6, 1)] := by kernel_rfl
@[go_sem] theorem t203_kd : kindT Tryz.prog 203 = 6 := by kernel_rfl
@[go_sem] theorem f2_en : entersB Tryz.prog 2 = true := by kernel_rfl
@[go_sem] theorem f2_rs : Tryz.f2.results.toList = [] := by kernel_rfl
@[go_sem] theorem f2_nt : Tryz.f2.ntmps = 1 := by kernel_rfl
@[go_sem] theorem f3_en : entersB Tryz.prog 3 = true := by kernel_rfl
@[go_sem] theorem f3_rs : Tryz.f3.results.toList = [.tmp 2] := by kernel_rfl
@[go_sem] theorem f3_nt : Tryz.f3.ntmps = 110 := by kernel_rfl
@[go_sem] theorem f4_en : entersB Tryz.prog 4 = true := by kernel_rfl
@[go_sem] theorem f4_rs : Tryz.f4.results.toList = [.tmp 2] := by kernel_rfl
@[go_sem] theorem f4_nt : Tryz.f4.ntmps = 144 := by kernel_rfl
@[go_sem] theorem f5_en : entersB Tryz.prog 5 = true := by kernel_rfl
@[go_sem] theorem f5_rs : Tryz.f5.results.toList = [.tmp 4] := by kernel_rfl
@[go_sem] theorem f5_nt : Tryz.f5.ntmps = 74 := by kernel_rfl
@[go_sem] theorem f6_en : entersB Tryz.prog 6 = true := by kernel_rfl
@[go_sem] theorem f6_rs : Tryz.f6.results.toList = [.tmp 6] := by kernel_rfl
@[go_sem] theorem f6_nt : Tryz.f6.ntmps = 19 := by kernel_rfl
@[go_sem] theorem f7_en : entersB Tryz.prog 7 = true := by kernel_rfl
@[go_sem] theorem f7_rs : Tryz.f7.results.toList = [.tmp 2] := by kernel_rfl
@[go_sem] theorem f7_nt : Tryz.f7.ntmps = 63 := by kernel_rfl
@[go_sem] theorem f8_en : entersB Tryz.prog 8 = true := by kernel_rfl
@[go_sem] theorem f8_rs : Tryz.f8.results.toList = [.tmp 0] := by kernel_rfl
@[go_sem] theorem f8_nt : Tryz.f8.ntmps = 72 := by kernel_rfl
@[go_sem] theorem f9_en : entersB Tryz.prog 9 = true := by kernel_rfl
@[go_sem] theorem f9_rs : Tryz.f9.results.toList = [.tmp 6, .tmp 7] := by kernel_rfl
@[go_sem] theorem f9_nt : Tryz.f9.ntmps = 38 := by kernel_rfl
@[go_sem] theorem f10_en : entersB Tryz.prog 10 = true := by kernel_rfl
@[go_sem] theorem f10_rs : Tryz.f10.results.toList = [.tmp 6, .tmp 7] := by kernel_rfl
@[go_sem] theorem f10_nt : Tryz.f10.ntmps = 24 := by kernel_rfl
@[go_sem] theorem f11_en : entersB Tryz.prog 11 = true := by kernel_rfl
@[go_sem] theorem f11_rs : Tryz.f11.results.toList = [.tmp 2] := by kernel_rfl
@[go_sem] theorem f11_nt : Tryz.f11.ntmps = 15 := by kernel_rfl
@[go_sem] theorem f12_en : entersB Tryz.prog 12 = true := by kernel_rfl
@[go_sem] theorem f12_rs : Tryz.f12.results.toList = [.tmp 4] := by kernel_rfl
@[go_sem] theorem f12_nt : Tryz.f12.ntmps = 9 := by kernel_rfl
@[go_sem] theorem f13_en : entersB Tryz.prog 13 = true := by kernel_rfl
@[go_sem] theorem f13_rs : Tryz.f13.results.toList = [.tmp 3] := by kernel_rfl
@[go_sem] theorem f13_nt : Tryz.f13.ntmps = 16 := by kernel_rfl
@[go_sem] theorem f14_en : entersB Tryz.prog 14 = true := by kernel_rfl
@[go_sem] theorem f14_rs : Tryz.f14.results.toList = [.tmp 2, .tmp 3] := by kernel_rfl
@[go_sem] theorem f14_nt : Tryz.f14.ntmps = 20 := by kernel_rfl
@[go_sem] theorem f15_en : entersB Tryz.prog 15 = true := by kernel_rfl
@[go_sem] theorem f15_rs : Tryz.f15.results.toList = [.tmp 6, .tmp 7] := by kernel_rfl
@[go_sem] theorem f15_nt : Tryz.f15.ntmps = 23 := by kernel_rfl
@[go_sem] theorem f16_en : entersB Tryz.prog 16 = true := by kernel_rfl
@[go_sem] theorem f16_rs : Tryz.f16.results.toList = [.tmp 6, .tmp 7, .tmp 8] := by kernel_rfl
@[go_sem] theorem f16_nt : Tryz.f16.ntmps = 30 := by kernel_rfl
@[go_sem] theorem f17_en : entersB Tryz.prog 17 = true := by kernel_rfl
@[go_sem] theorem f17_rs : Tryz.f17.results.toList = [.tmp 4] := by kernel_rfl
@[go_sem] theorem f17_nt : Tryz.f17.ntmps = 9 := by kernel_rfl
@[go_sem] theorem f18_en : entersB Tryz.prog 18 = true := by kernel_rfl
@[go_sem] theorem f18_rs : Tryz.f18.results.toList = [.tmp 4] := by kernel_rfl
@[go_sem] theorem f18_nt : Tryz.f18.ntmps = 9 := by kernel_rfl
@[go_sem] theorem f19_en : entersB Tryz.prog 19 = true := by kernel_rfl
@[go_sem] theorem f19_rs : Tryz.f19.results.toList = [.tmp 3] := by kernel_rfl
@[go_sem] theorem f19_nt : Tryz.f19.ntmps = 13 := by kernel_rfl
@[go_sem] theorem f20_en : entersB Tryz.prog 20 = true := by kernel_rfl
@[go_sem] theorem f20_rs : Tryz.f20.results.toList = [.tmp 4] := by kernel_rfl
@[go_sem] theorem f20_nt : Tryz.f20.ntmps = 12 := by kernel_rfl
@[go_sem] theorem f21_en : entersB Tryz.prog 21 = true := by kernel_rfl
@[go_sem] theorem f21_rs : Tryz.f21.results.toList = [.tmp 4] := by kernel_rfl
@[go_sem] theorem f21_nt : Tryz.f21.ntmps = 12 := by kernel_rfl
@[go_sem] theorem f22_en : entersB Tryz.prog 22 = true := by kernel_rfl
@[go_sem] theorem f22_rs : Tryz.f22.results.toList = [.tmp 4] := by kernel_rfl
@[go_sem] theorem f22_nt : Tryz.f22.ntmps = 9 := by kernel_rfl
@[go_sem] theorem f23_en : entersB Tryz.prog 23 = true := by kernel_rfl
@[go_sem] theorem f23_rs : Tryz.f23.results.toList = [.tmp 4] := by kernel_rfl
@[go_sem] theorem f23_nt : Tryz.f23.ntmps = 64 := by kernel_rfl
@[go_sem] theorem f24_en : entersB Tryz.prog 24 = true := by kernel_rfl
@[go_sem] theorem f24_rs : Tryz.f24.results.toList = [.tmp 6] := by kernel_rfl
@[go_sem] theorem f24_nt : Tryz.f24.ntmps = 22 := by kernel_rfl
@[go_sem] theorem f25_en : entersB Tryz.prog 25 = true := by kernel_rfl
@[go_sem] theorem f25_rs : Tryz.f25.results.toList = [.cell 2 40] := by kernel_rfl
@[go_sem] theorem f25_nt : Tryz.f25.ntmps = 13 := by kernel_rfl
@[go_sem] theorem f26_en : entersB Tryz.prog 26 = true := by kernel_rfl
@[go_sem] theorem f26_rs : Tryz.f26.results.toList = [.tmp 2] := by kernel_rfl
@[go_sem] theorem f26_nt : Tryz.f26.ntmps = 15 := by kernel_rfl
@[go_sem] theorem f27_en : entersB Tryz.prog 27 = true := by kernel_rfl
@[go_sem] theorem f27_rs : Tryz.f27.results.toList = [.tmp 2] := by kernel_rfl
@[go_sem] theorem f27_nt : Tryz.f27.ntmps = 27 := by kernel_rfl
@[go_sem] theorem f28_en : entersB Tryz.prog 28 = true := by kernel_rfl
@[go_sem] theorem f28_rs : Tryz.f28.results.toList = [.tmp 6] := by kernel_rfl
@[go_sem] theorem f28_nt : Tryz.f28.ntmps = 15 := by kernel_rfl
@[go_sem] theorem f29_en : entersB Tryz.prog 29 = true := by kernel_rfl
@[go_sem] theorem f29_rs : Tryz.f29.results.toList = [.tmp 4, .tmp 5] := by kernel_rfl
@[go_sem] theorem f29_nt : Tryz.f29.ntmps = 29 := by kernel_rfl
@[go_sem] theorem f30_en : entersB Tryz.prog 30 = true := by kernel_rfl
@[go_sem] theorem f30_rs : Tryz.f30.results.toList = [.tmp 2, .tmp 3] := by kernel_rfl
@[go_sem] theorem f30_nt : Tryz.f30.ntmps = 8 := by kernel_rfl
@[go_sem] theorem f31_en : entersB Tryz.prog 31 = true := by kernel_rfl
@[go_sem] theorem f31_rs : Tryz.f31.results.toList = [.cell 6 40, .tmp 7] := by kernel_rfl
@[go_sem] theorem f31_nt : Tryz.f31.ntmps = 39 := by kernel_rfl
@[go_sem] theorem f32_en : entersB Tryz.prog 32 = true := by kernel_rfl
@[go_sem] theorem f32_rs : Tryz.f32.results.toList = [.tmp 4, .tmp 5] := by kernel_rfl
@[go_sem] theorem f32_nt : Tryz.f32.ntmps = 29 := by kernel_rfl
@[go_sem] theorem f33_en : entersB Tryz.prog 33 = true := by kernel_rfl
@[go_sem] theorem f33_rs : Tryz.f33.results.toList = [.tmp 4, .tmp 5] := by kernel_rfl
@[go_sem] theorem f33_nt : Tryz.f33.ntmps = 18 := by kernel_rfl
@[go_sem] theorem f34_en : entersB Tryz.prog 34 = true := by kernel_rfl
@[go_sem] theorem f34_rs : Tryz.f34.results.toList = [.tmp 6] := by kernel_rfl
@[go_sem] theorem f34_nt : Tryz.f34.ntmps = 15 := by kernel_rfl
@[go_sem] theorem f35_en : entersB Tryz.prog 35 = true := by kernel_rfl
@[go_sem] theorem f35_rs : Tryz.f35.results.toList = [.tmp 6] := by kernel_rfl
@[go_sem] theorem f35_nt : Tryz.f35.ntmps = 85 := by kernel_rfl
@[go_sem] theorem f36_en : entersB Tryz.prog 36 = true := by kernel_rfl
@[go_sem] theorem f36_rs : Tryz.f36.results.toList = [.tmp 2] := by kernel_rfl
@[go_sem] theorem f36_nt : Tryz.f36.ntmps = 46 := by kernel_rfl
@[go_sem] theorem f37_en : entersB Tryz.prog 37 = true := by kernel_rfl
@[go_sem] theorem f37_rs : Tryz.f37.results.toList = [.tmp 4] := by kernel_rfl
@[go_sem] theorem f37_nt : Tryz.f37.ntmps = 19 := by kernel_rfl
@[go_sem] theorem f38_en : entersB Tryz.prog 38 = true := by kernel_rfl
@[go_sem] theorem f38_rs : Tryz.f38.results.toList = [.tmp 2] := by kernel_rfl
@[go_sem] theorem f38_nt : Tryz.f38.ntmps = 21 := by kernel_rfl
@[go_sem] theorem f39_en : entersB Tryz.prog 39 = true := by kernel_rfl
@[go_sem] theorem f39_rs : Tryz.f39.results.toList = [.tmp 4] := by kernel_rfl
@[go_sem] theorem f39_nt : Tryz.f39.ntmps = 19 := by kernel_rfl
@[go_sem] theorem f40_en : entersB Tryz.prog 40 = true := by kernel_rfl
@[go_sem] theorem f40_rs : Tryz.f40.results.toList = [.tmp 4] := by kernel_rfl
@[go_sem] theorem f40_nt : Tryz.f40.ntmps = 19 := by kernel_rfl
@[go_sem] theorem f41_en : entersB Tryz.prog 41 = true := by kernel_rfl
@[go_sem] theorem f41_rs : Tryz.f41.results.toList = [.tmp 4] := by kernel_rfl
@[go_sem] theorem f41_nt : Tryz.f41.ntmps = 16 := by kernel_rfl
@[go_sem] theorem f42_en : entersB Tryz.prog 42 = true := by kernel_rfl
@[go_sem] theorem f42_rs : Tryz.f42.results.toList = [.tmp 4] := by kernel_rfl
@[go_sem] theorem f42_nt : Tryz.f42.ntmps = 18 := by kernel_rfl
@[go_sem] theorem f43_en : entersB Tryz.prog 43 = true := by kernel_rfl
@[go_sem] theorem f43_rs : Tryz.f43.results.toList = [.tmp 2] := by kernel_rfl
@[go_sem] theorem f43_nt : Tryz.f43.ntmps = 5 := by kernel_rfl
@[go_sem] theorem f44_en : entersB Tryz.prog 44 = true := by kernel_rfl
@[go_sem] theorem f44_rs : Tryz.f44.results.toList = [.tmp 2] := by kernel_rfl
@[go_sem] theorem f44_nt : Tryz.f44.ntmps = 15 := by kernel_rfl
@[go_sem] theorem f45_en : entersB Tryz.prog 45 = true := by kernel_rfl
@[go_sem] theorem f45_rs : Tryz.f45.results.toList = [.tmp 2] := by kernel_rfl
@[go_sem] theorem f45_nt : Tryz.f45.ntmps = 35 := by kernel_rfl
@[go_sem] theorem f46_en : entersB Tryz.prog 46 = true := by kernel_rfl
@[go_sem] theorem f46_rs : Tryz.f46.results.toList = [.tmp 2] := by kernel_rfl
@[go_sem] theorem f46_nt : Tryz.f46.ntmps = 36 := by kernel_rfl
@[go_sem] theorem f47_en : entersB Tryz.prog 47 = true := by kernel_rfl
@[go_sem] theorem f47_rs : Tryz.f47.results.toList = [] := by kernel_rfl
@[go_sem] theorem f47_nt : Tryz.f47.ntmps = 14 := by kernel_rfl
@[go_sem] theorem f48_en : entersB Tryz.prog 48 = true := by kernel_rfl
@[go_sem] theorem f48_rs : Tryz.f48.results.toList = [.tmp 4] := by kernel_rfl
@[go_sem] theorem f48_nt : Tryz.f48.ntmps = 22 := by kernel_rfl
@[go_sem] theorem f49_en : entersB Tryz.prog 49 = true := by kernel_rfl
@[go_sem] theorem f49_rs : Tryz.f49.results.toList = [.tmp 4] := by kernel_rfl
@[go_sem] theorem f49_nt : Tryz.f49.ntmps = 66 := by kernel_rfl
@[go_sem] theorem f50_en : entersB Tryz.prog 50 = true := by kernel_rfl
@[go_sem] theorem f50_rs : Tryz.f50.results.toList = [.tmp 4] := by kernel_rfl
@[go_sem] theorem f50_nt : Tryz.f50.ntmps = 10 := by kernel_rfl
@[go_sem] theorem f51_en : entersB Tryz.prog 51 = true := by kernel_rfl
@[go_sem] theorem f51_rs : Tryz.f51.results.toList = [.tmp 6] := by kernel_rfl
@[go_sem] theorem f51_nt : Tryz.f51.ntmps = 15 := by kernel_rfl
@[go_sem] theorem f52_en : entersB Tryz.prog 52 = true := by kernel_rfl
@[go_sem] theorem f52_rs : Tryz.f52.results.toList = [.tmp 2] := by kernel_rfl
@[go_sem] theorem f52_nt : Tryz.f52.ntmps = 28 := by kernel_rfl
@[go_sem] theorem f53_en : entersB Tryz.prog 53 = true := by kernel_rfl
@[go_sem] theorem f53_rs : Tryz.f53.results.toList = [.tmp 2, .tmp 3, .tmp 4] := by kernel_rfl
@[go_sem] theorem f53_nt : Tryz.f53.ntmps = 56 := by kernel_rfl
@[go_sem] theorem f54_en : entersB Tryz.prog 54 = true := by kernel_rfl
@[go_sem] theorem f54_rs : Tryz.f54.results.toList = [.tmp 2] := by kernel_rfl
@[go_sem] theorem f54_nt : Tryz.f54.ntmps = 42 := by kernel_rfl
@[go_sem] theorem f55_en : entersB Tryz.prog 55 = true := by kernel_rfl
@[go_sem] theorem f55_rs : Tryz.f55.results.toList = [.tmp 2] := by kernel_rfl
@[go_sem] theorem f55_nt : Tryz.f55.ntmps = 6 := by kernel_rfl
@[go_sem] theorem f56_en : entersB Tryz.prog 56 = true := by kernel_rfl
@[go_sem] theorem f56_rs : Tryz.f56.results.toList = [.cell 6 109] := by kernel_rfl
@[go_sem] theorem f56_nt : Tryz.f56.ntmps = 107 := by kernel_rfl
@[go_sem] theorem f57_en : entersB Tryz.prog 57 = true := by kernel_rfl
@[go_sem] theorem f57_rs : Tryz.f57.results.toList = [.tmp 2] := by kernel_rfl
@[go_sem] theorem f57_nt : Tryz.f57.ntmps = 4 := by kernel_rfl
@[go_sem] theorem f58_en : entersB Tryz.prog 58 = true := by kernel_rfl
@[go_sem] theorem f58_rs : Tryz.f58.results.toList = [.cell 4 40] := by kernel_rfl
@[go_sem] theorem f58_nt : Tryz.f58.ntmps = 16 := by kernel_rfl
@[go_sem] theorem f59_en : entersB Tryz.prog 59 = true := by kernel_rfl
@[go_sem] theorem f59_rs : Tryz.f59.results.toList = [.tmp 4] := by kernel_rfl
@[go_sem] theorem f59_nt : Tryz.f59.ntmps = 16 := by kernel_rfl
@[go_sem] theorem f60_en : entersB Tryz.prog 60 = true := by kernel_rfl
@[go_sem] theorem f60_rs : Tryz.f60.results.toList = [.tmp 4, .tmp 5] := by kernel_rfl
@[go_sem] theorem f60_nt : Tryz.f60.ntmps = 33 := by kernel_rfl
@[go_sem] theorem f61_en : entersB Tryz.prog 61 = true := by kernel_rfl
@[go_sem] theorem f61_rs : Tryz.f61.results.toList = [.tmp 2] := by kernel_rfl
@[go_sem] theorem f61_nt : Tryz.f61.ntmps = 11 := by kernel_rfl
@[go_sem] theorem f62_en : entersB Tryz.prog 62 = true := by kernel_rfl
@[go_sem] theorem f62_rs : Tryz.f62.results.toList = [.tmp 4] := by kernel_rfl
@[go_sem] theorem f62_nt : Tryz.f62.ntmps = 39 := by kernel_rfl
@[go_sem] theorem f63_en : entersB Tryz.prog 63 = true := by kernel_rfl
@[go_sem] theorem f63_rs : Tryz.f63.results.toList = [] := by kernel_rfl
@[go_sem] theorem f63_nt : Tryz.f63.ntmps = 99 := by kernel_rfl
@[go_sem] theorem f64_en : entersB Tryz.prog 64 = true := by kernel_rfl
@[go_sem] theorem f64_rs : Tryz.f64.results.toList = [] := by kernel_rfl
@[go_sem] theorem f64_nt : Tryz.f64.ntmps = 66 := by kernel_rfl
@[go_sem] theorem f65_en : entersB Tryz.prog 65 = true := by kernel_rfl
@[go_sem] theorem f65_rs : Tryz.f65.results.toList = [.tmp 4] := by kernel_rfl
@[go_sem] theorem f65_nt : Tryz.f65.ntmps = 37 := by kernel_rfl
@[go_sem] theorem f66_en : entersB Tryz.prog 66 = true := by kernel_rfl
@[go_sem] theorem f66_rs : Tryz.f66.results.toList = [] := by kernel_rfl
@[go_sem] theorem f66_nt : Tryz.f66.ntmps = 11 := by kernel_rfl
@[go_sem] theorem f67_en : entersB Tryz.prog 67 = true := by kernel_rfl
@[go_sem] theorem f67_rs : Tryz.f67.results.toList = [.tmp 2] := by kernel_rfl
@[go_sem] theorem f67_nt : Tryz.f67.ntmps = 42 := by kernel_rfl
@[go_sem] theorem f68_en : entersB Tryz.prog 68 = true := by kernel_rfl
@[go_sem] theorem f68_rs : Tryz.f68.results.toList = [.tmp 4] := by kernel_rfl
@[go_sem] theorem f68_nt : Tryz.f68.ntmps = 8 := by kernel_rfl
@[go_sem] theorem f69_en : entersB Tryz.prog 69 = true := by kernel_rfl
@[go_sem] theorem f69_rs : Tryz.f69.results.toList = [.tmp 2] := by kernel_rfl
@[go_sem] theorem f69_nt : Tryz.f69.ntmps = 25 := by kernel_rfl
@[go_sem] theorem f70_en : entersB Tryz.prog 70 = true := by kernel_rfl
@[go_sem] theorem f70_rs : Tryz.f70.results.toList = [.tmp 4] := by kernel_rfl
@[go_sem] theorem f70_nt : Tryz.f70.ntmps = 27 := by kernel_rfl
@[go_sem] theorem f71_en : entersB Tryz.prog 71 = true := by kernel_rfl
@[go_sem] theorem f71_rs : Tryz.f71.results.toList = [] := by kernel_rfl
@[go_sem] theorem f71_nt : Tryz.f71.ntmps = 148 := by kernel_rfl
@[go_sem] theorem f72_en : entersB Tryz.prog 72 = true := by kernel_rfl
@[go_sem] theorem f72_rs : Tryz.f72.results.toList = [.tmp 2] := by kernel_rfl
@[go_sem] theorem f72_nt : Tryz.f72.ntmps = 8 := by kernel_rfl
@[go_sem] theorem f73_en : entersB Tryz.prog 73 = true := by kernel_rfl
@[go_sem] theorem f73_rs : Tryz.f73.results.toList = [.tmp 2] := by kernel_rfl
@[go_sem] theorem f73_nt : Tryz.f73.ntmps = 18 := by kernel_rfl
@[go_sem] theorem f74_en : entersB Tryz.prog 74 = true := by kernel_rfl
@[go_sem] theorem f74_rs : Tryz.f74.results.toList = [.tmp 4] := by kernel_rfl
@[go_sem] theorem f74_nt : Tryz.f74.ntmps = 20 := by kernel_rfl
@[go_sem] theorem f75_en : entersB Tryz.prog 75 = true := by kernel_rfl
@[go_sem] theorem f75_rs : Tryz.f75.results.toList = [.cell 4 131] := by kernel_rfl
@[go_sem] theorem f75_nt : Tryz.f75.ntmps = 127 := by kernel_rfl
@[go_sem] theorem f76_en : entersB Tryz.prog 76 = true := by kernel_rfl
@[go_sem] theorem f76_rs : Tryz.f76.results.toList = [.tmp 2] := by kernel_rfl
@[go_sem] theorem f76_nt : Tryz.f76.ntmps = 7 := by kernel_rfl
@[go_sem] theorem f77_en : entersB Tryz.prog 77 = true := by kernel_rfl
@[go_sem] theorem f77_rs : Tryz.f77.results.toList = [.tmp 2] := by kernel_rfl
@[go_sem] theorem f77_nt : Tryz.f77.ntmps = 18 := by kernel_rfl
@[go_sem] theorem f78_en : entersB Tryz.prog 78 = true := by kernel_rfl
@[go_sem] theorem f78_rs : Tryz.f78.results.toList = [.tmp 2] := by kernel_rfl
@[go_sem] theorem f78_nt : Tryz.f78.ntmps = 54 := by kernel_rfl
@[go_sem] theorem f79_en : entersB Tryz.prog 79 = true := by kernel_rfl
@[go_sem] theorem f79_rs : Tryz.f79.results.toList = [.cell 5 109] := by kernel_rfl
@[go_sem] theorem f79_nt : Tryz.f79.ntmps = 16 := by kernel_rfl
@[go_sem] theorem f80_en : entersB Tryz.prog 80 = true := by kernel_rfl
@[go_sem] theorem f80_rs : Tryz.f80.results.toList = [.cell 0 109] := by kernel_rfl
@[go_sem] theorem f80_nt : Tryz.f80.ntmps = 2 := by kernel_rfl
@[go_sem] theorem f81_en : entersB Tryz.prog 81 = true := by kernel_rfl
@[go_sem] theorem f81_rs : Tryz.f81.results.toList = [.cell 6 109] := by kernel_rfl
@[go_sem] theorem f81_nt : Tryz.f81.ntmps = 20 := by kernel_rfl
@[go_sem] theorem f82_en : entersB Tryz.prog 82 = true := by kernel_rfl
@[go_sem] theorem f82_rs : Tryz.f82.results.toList = [.cell 4 109] := by kernel_rfl
@[go_sem] theorem f82_nt : Tryz.f82.ntmps = 10 := by kernel_rfl
@[go_sem] theorem f83_en : entersB Tryz.prog 83 = true := by kernel_rfl
@[go_sem] theorem f83_rs : Tryz.f83.results.toList = [.cell 6 109] := by kernel_rfl
@[go_sem] theorem f83_nt : Tryz.f83.ntmps = 88 := by kernel_rfl
@[go_sem] theorem f84_en : entersB Tryz.prog 84 = true := by kernel_rfl
@[go_sem] theorem f84_rs : Tryz.f84.results.toList = [.cell 5 109] := by kernel_rfl
@[go_sem] theorem f84_nt : Tryz.f84.ntmps = 36 := by kernel_rfl
@[go_sem] theorem f85_en : entersB Tryz.prog 85 = true := by kernel_rfl
@[go_sem] theorem f85_rs : Tryz.f85.results.toList = [.tmp 4] := by kernel_rfl
@[go_sem] theorem f85_nt : Tryz.f85.ntmps = 20 := by kernel_rfl
@[go_sem] theorem f86_en : entersB Tryz.prog 86 = true := by kernel_rfl
@[go_sem] theorem f86_rs : Tryz.f86.results.toList = [.tmp 6, .tmp 7] := by kernel_rfl
@[go_sem] theorem f86_nt : Tryz.f86.ntmps = 49 := by kernel_rfl
@[go_sem] theorem f87_en : entersB Tryz.prog 87 = true := by kernel_rfl
@[go_sem] theorem f87_rs : Tryz.f87.results.toList = [.tmp 4] := by kernel_rfl
@[go_sem] theorem f87_nt : Tryz.f87.ntmps = 9 := by kernel_rfl
@[go_sem] theorem f88_en : entersB Tryz.prog 88 = true := by kernel_rfl
@[go_sem] theorem f88_rs : Tryz.f88.results.toList = [.tmp 2] := by kernel_rfl
@[go_sem] theorem f88_nt : Tryz.f88.ntmps = 40 := by kernel_rfl
@[go_sem] theorem f89_en : entersB Tryz.prog 89 = true := by kernel_rfl
@[go_sem] theorem f89_rs : Tryz.f89.results.toList = [.tmp 4] := by kernel_rfl
@[go_sem] theorem f89_nt : Tryz.f89.ntmps = 35 := by kernel_rfl
@[go_sem] theorem f90_en : entersB Tryz.prog 90 = true := by kernel_rfl
@[go_sem] theorem f90_rs : Tryz.f90.results.toList = [] := by kernel_rfl
@[go_sem] theorem f90_nt : Tryz.f90.ntmps = 33 := by kernel_rfl
@[go_sem] theorem f91_en : entersB Tryz.prog 91 = true := by kernel_rfl
@[go_sem] theorem f91_rs : Tryz.f91.results.toList = [.tmp 4] := by kernel_rfl
@[go_sem] theorem f91_nt : Tryz.f91.ntmps = 42 := by kernel_rfl
@[go_sem] theorem f92_en : entersB Tryz.prog 92 = true := by kernel_rfl
@[go_sem] theorem f92_rs : Tryz.f92.results.toList = [.tmp 3] := by kernel_rfl
@[go_sem] theorem f92_nt : Tryz.f92.ntmps = 9 := by kernel_rfl
@[go_sem] theorem f93_en : entersB Tryz.prog 93 = true := by kernel_rfl
@[go_sem] theorem f93_rs : Tryz.f93.results.toList = [] := by kernel_rfl
@[go_sem] theorem f93_nt : Tryz.f93.ntmps = 134 := by kernel_rfl
@[go_sem] theorem f94_en : entersB Tryz.prog 94 = true := by kernel_rfl
@[go_sem] theorem f94_rs : Tryz.f94.results.toList = [.tmp 4] := by kernel_rfl
@[go_sem] theorem f94_nt : Tryz.f94.ntmps = 8 := by kernel_rfl
@[go_sem] theorem f95_en : entersB Tryz.prog 95 = true := by kernel_rfl
@[go_sem] theorem f95_rs : Tryz.f95.results.toList = [] := by kernel_rfl
@[go_sem] theorem f95_nt : Tryz.f95.ntmps = 53 := by kernel_rfl
@[go_sem] theorem f96_en : entersB Tryz.prog 96 = true := by kernel_rfl
@[go_sem] theorem f96_rs : Tryz.f96.results.toList = [] := by kernel_rfl
@[go_sem] theorem f96_nt : Tryz.f96.ntmps = 60 := by kernel_rfl
@[go_sem] theorem f97_en : entersB Tryz.prog 97 = true := by kernel_rfl
@[go_sem] theorem f97_rs : Tryz.f97.results.toList = [] := by kernel_rfl
@[go_sem] theorem f97_nt : Tryz.f97.ntmps = 67 := by kernel_rfl
@[go_sem] theorem f98_en : entersB Tryz.prog 98 = true := by kernel_rfl
@[go_sem] theorem f98_rs : Tryz.f98.results.toList = [.tmp 8, .tmp 9] := by kernel_rfl
@[go_sem] theorem f98_nt : Tryz.f98.ntmps = 63 := by kernel_rfl
@[go_sem] theorem f99_en : entersB Tryz.prog 99 = true := by kernel_rfl
@[go_sem] theorem f99_rs : Tryz.f99.results.toList = [] := by kernel_rfl
@[go_sem] theorem f99_nt : Tryz.f99.ntmps = 34 := by kernel_rfl
@[go_sem] theorem f100_en : entersB Tryz.prog 100 = true := by kernel_rfl
@[go_sem] theorem f100_rs : Tryz.f100.results.toList = [.tmp 8] := by kernel_rfl
@[go_sem] theorem f100_nt : Tryz.f100.ntmps = 141 := by kernel_rfl
@[go_sem] theorem f101_en : entersB Tryz.prog 101 = true := by kernel_rfl
@[go_sem] theorem f101_rs : Tryz.f101.results.toList = [.tmp 10] := by kernel_rfl
@[go_sem] theorem f101_nt : Tryz.f101.ntmps = 90 := by kernel_rfl
@[go_sem] theorem f102_en : entersB Tryz.prog 102 = true := by kernel_rfl
@[go_sem] theorem f102_rs : Tryz.f102.results.toList = [.tmp 10, .tmp 11] := by kernel_rfl
@[go_sem] theorem f102_nt : Tryz.f102.ntmps = 178 := by kernel_rfl
@[go_sem] theorem f103_en : entersB Tryz.prog 103 = true := by kernel_rfl
@[go_sem] theorem f103_rs : Tryz.f103.results.toList = [.tmp 2] := by kernel_rfl
@[go_sem] theorem f103_nt : Tryz.f103.ntmps = 19 := by kernel_rfl
@[go_sem] theorem f104_en : entersB Tryz.prog 104 = true := by kernel_rfl
@[go_sem] theorem f104_rs : Tryz.f104.results.toList = [.tmp 2] := by kernel_rfl
@[go_sem] theorem f104_nt : Tryz.f104.ntmps = 25 := by kernel_rfl
@[go_sem] theorem f105_en : entersB Tryz.prog 105 = true := by kernel_rfl
@[go_sem] theorem f105_rs : Tryz.f105.results.toList = [.tmp 2] := by kernel_rfl
@[go_sem] theorem f105_nt : Tryz.f105.ntmps = 6 := by kernel_rfl
@[go_sem] theorem f106_en : entersB Tryz.prog 106 = true := by kernel_rfl
@[go_sem] theorem f106_rs : Tryz.f106.results.toList = [.tmp 2] := by kernel_rfl
@[go_sem] theorem f106_nt : Tryz.f106.ntmps = 9 := by kernel_rfl
@[go_sem] theorem f107_en : entersB Tryz.prog 107 = true := by kernel_rfl
@[go_sem] theorem f107_rs : Tryz.f107.results.toList = [.tmp 2] := by kernel_rfl
@[go_sem] theorem f107_nt : Tryz.f107.ntmps = 9 := by kernel_rfl
@[go_sem] theorem f108_en : entersB Tryz.prog 108 = true := by kernel_rfl
@[go_sem] theorem f108_rs : Tryz.f108.results.toList = [.tmp 8] := by kernel_rfl
@[go_sem] theorem f108_nt : Tryz.f108.ntmps = 54 := by kernel_rfl
@[go_sem] theorem f109_en : entersB Tryz.prog 109 = true := by kernel_rfl
@[go_sem] theorem f109_rs : Tryz.f109.results.toList = [.tmp 2] := by kernel_rfl
@[go_sem] theorem f109_nt : Tryz.f109.ntmps = 7 := by kernel_rfl
@[go_sem] theorem f110_en : entersB Tryz.prog 110 = true := by kernel_rfl
@[go_sem] theorem f110_rs : Tryz.f110.results.toList = [.tmp 4] := by kernel_rfl
@[go_sem] theorem f110_nt : Tryz.f110.ntmps = 22 := by kernel_rfl
@[go_sem] theorem f111_en : entersB Tryz.prog 111 = true := by kernel_rfl
@[go_sem] theorem f111_rs : Tryz.f111.results.toList = [.tmp 6, .tmp 7] := by kernel_rfl
@[go_sem] theorem f111_nt : Tryz.f111.ntmps = 49 := by kernel_rfl
@[go_sem] theorem f112_en : entersB Tryz.prog 112 = true := by kernel_rfl
@[go_sem] theorem f112_rs : Tryz.f112.results.toList = [.tmp 4] := by kernel_rfl
@[go_sem] theorem f112_nt : Tryz.f112.ntmps = 9 := by kernel_rfl
@[go_sem] theorem f113_en : entersB Tryz.prog 113 = true := by kernel_rfl
@[go_sem] theorem f113_rs : Tryz.f113.results.toList = [.tmp 4] := by kernel_rfl
@[go_sem] theorem f113_nt : Tryz.f113.ntmps = 8 := by kernel_rfl
@[go_sem] theorem f114_en : entersB Tryz.prog 114 = true := by kernel_rfl
@[go_sem] theorem f114_rs : Tryz.f114.results.toList = [.tmp 2] := by kernel_rfl
@[go_sem] theorem f114_nt : Tryz.f114.ntmps = 29 := by kernel_rfl
@[go_sem] theorem f115_en : entersB Tryz.prog 115 = true := by kernel_rfl
@[go_sem] theorem f115_rs : Tryz.f115.results.toList = [.tmp 4] := by kernel_rfl
@[go_sem] theorem f115_nt : Tryz.f115.ntmps = 24 := by kernel_rfl
@[go_sem] theorem f116_en : entersB Tryz.prog 116 = true := by kernel_rfl
@[go_sem] theorem f116_rs : Tryz.f116.results.toList = [.tmp 2] := by kernel_rfl
@[go_sem] theorem f116_nt : Tryz.f116.ntmps = 20 := by kernel_rfl
@[go_sem] theorem f117_en : entersB Tryz.prog 117 = true := by kernel_rfl
@[go_sem] theorem f117_rs : Tryz.f117.results.toList = [.tmp 2] := by kernel_rfl
@[go_sem] theorem f117_nt : Tryz.f117.ntmps = 40 := by kernel_rfl
@[go_sem] theorem f118_en : entersB Tryz.prog 118 = true := by kernel_rfl
@[go_sem] theorem f118_rs : Tryz.f118.results.toList = [.cell 4 152] := by kernel_rfl
@[go_sem] theorem f118_nt : Tryz.f118.ntmps = 57 := by kernel_rfl
@[go_sem] theorem f119_en : entersB Tryz.prog 119 = true := by kernel_rfl
@[go_sem] theorem f119_rs : Tryz.f119.results.toList = [.tmp 6] := by kernel_rfl
@[go_sem] theorem f119_nt : Tryz.f119.ntmps = 33 := by kernel_rfl
@[go_sem] theorem f120_en : entersB Tryz.prog 120 = true := by kernel_rfl
@[go_sem] theorem f120_rs : Tryz.f120.results.toList = [.tmp 4] := by kernel_rfl
@[go_sem] theorem f120_nt : Tryz.f120.ntmps = 19 := by kernel_rfl
@[go_sem] theorem f121_en : entersB Tryz.prog 121 = true := by kernel_rfl
@[go_sem] theorem f121_rs : Tryz.f121.results.toList = [] := by kernel_rfl
@[go_sem] theorem f121_nt : Tryz.f121.ntmps = 49 := by kernel_rfl
@[go_sem] theorem f122_en : entersB Tryz.prog 122 = true := by kernel_rfl
@[go_sem] theorem f122_rs : Tryz.f122.results.toList = [] := by kernel_rfl
@[go_sem] theorem f122_nt : Tryz.f122.ntmps = 56 := by kernel_rfl
@[go_sem] theorem f123_en : entersB Tryz.prog 123 = true := by kernel_rfl
@[go_sem] theorem f123_rs : Tryz.f123.results.toList = [] := by kernel_rfl
@[go_sem] theorem f123_nt : Tryz.f123.ntmps = 65 := by kernel_rfl
@[go_sem] theorem f124_en : entersB Tryz.prog 124 = true := by kernel_rfl
@[go_sem] theorem f124_rs : Tryz.f124.results.toList = [.tmp 6, .tmp 7] := by kernel_rfl
@[go_sem] theorem f124_nt : Tryz.f124.ntmps = 57 := by kernel_rfl
@[go_sem] theorem f125_en : entersB Tryz.prog 125 = true := by kernel_rfl
@[go_sem] theorem f125_rs : Tryz.f125.results.toList = [] := by kernel_rfl
@[go_sem] theorem f125_nt : Tryz.f125.ntmps = 32 := by kernel_rfl
@[go_sem] theorem f126_en : entersB Tryz.prog 126 = true := by kernel_rfl
@[go_sem] theorem f126_rs : Tryz.f126.results.toList = [.tmp 6] := by kernel_rfl
@[go_sem] theorem f126_nt : Tryz.f126.ntmps = 133 := by kernel_rfl
@[go_sem] theorem f127_en : entersB Tryz.prog 127 = true := by kernel_rfl
@[go_sem] theorem f127_rs : Tryz.f127.results.toList = [.tmp 4] := by kernel_rfl
@[go_sem] theorem f127_nt : Tryz.f127.ntmps = 17 := by kernel_rfl
@[go_sem] theorem f128_en : entersB Tryz.prog 128 = true := by kernel_rfl
@[go_sem] theorem f128_rs : Tryz.f128.results.toList = [.tmp 8] := by kernel_rfl
@[go_sem] theorem f128_nt : Tryz.f128.ntmps = 84 := by kernel_rfl
@[go_sem] theorem f129_en : entersB Tryz.prog 129 = true := by kernel_rfl
@[go_sem] theorem f129_rs : Tryz.f129.results.toList = [.tmp 8, .tmp 9] := by kernel_rfl
@[go_sem] theorem f129_nt : Tryz.f129.ntmps = 168 := by kernel_rfl
@[go_sem] theorem f131_en : entersB Tryz.prog 131 = true := by kernel_rfl
@[go_sem] theorem f131_rs : Tryz.f131.results.toList = [] := by kernel_rfl
@[go_sem] theorem f131_nt : Tryz.f131.ntmps = 82 := by kernel_rfl
@[go_sem] theorem f132_en : entersB Tryz.prog 132 = true := by kernel_rfl
@[go_sem] theorem f132_rs : Tryz.f132.results.toList = [.tmp 2] := by kernel_rfl
@[go_sem] theorem f132_nt : Tryz.f132.ntmps = 7 := by kernel_rfl
@[go_sem] theorem f133_en : entersB Tryz.prog 133 = true := by kernel_rfl
@[go_sem] theorem f133_rs : Tryz.f133.results.toList = [.tmp 2] := by kernel_rfl
@[go_sem] theorem f133_nt : Tryz.f133.ntmps = 33 := by kernel_rfl
@[go_sem] theorem f134_en : entersB Tryz.prog 134 = true := by kernel_rfl
@[go_sem] theorem f134_rs : Tryz.f134.results.toList = [.tmp 8] := by kernel_rfl
@[go_sem] theorem f134_nt : Tryz.f134.ntmps = 18 := by kernel_rfl
@[go_sem] theorem f135_en : entersB Tryz.prog 135 = true := by kernel_rfl
@[go_sem] theorem f135_rs : Tryz.f135.results.toList = [.tmp 12] := by kernel_rfl
@[go_sem] theorem f135_nt : Tryz.f135.ntmps = 41 := by kernel_rfl
@[go_sem] theorem f136_en : entersB Tryz.prog 136 = true := by kernel_rfl
@[go_sem] theorem f136_rs : Tryz.f136.results.toList = [.tmp 4] := by kernel_rfl
@[go_sem] theorem f136_nt : Tryz.f136.ntmps = 9 := by kernel_rfl
@[go_sem] theorem f137_en : entersB Tryz.prog 137 = true := by kernel_rfl
@[go_sem] theorem f137_rs : Tryz.f137.results.toList = [] := by kernel_rfl
@[go_sem] theorem f137_nt : Tryz.f137.ntmps = 42 := by kernel_rfl
@[go_sem] theorem f138_en : entersB Tryz.prog 138 = true := by kernel_rfl
@[go_sem] theorem f138_rs : Tryz.f138.results.toList = [.tmp 2] := by kernel_rfl
@[go_sem] theorem f138_nt : Tryz.f138.ntmps = 7 := by kernel_rfl
@[go_sem] theorem f139_en : entersB Tryz.prog 139 = true := by kernel_rfl
@[go_sem] theorem f139_rs : Tryz.f139.results.toList = [.tmp 4] := by kernel_rfl
@[go_sem] theorem f139_nt : Tryz.f139.ntmps = 8 := by kernel_rfl
@[go_sem] theorem f140_en : entersB Tryz.prog 140 = true := by kernel_rfl
@[go_sem] theorem f140_rs : Tryz.f140.results.toList = [] := by kernel_rfl
@[go_sem] theorem f140_nt : Tryz.f140.ntmps = 76 := by kernel_rfl
@[go_sem] theorem f141_en : entersB Tryz.prog 141 = true := by kernel_rfl
@[go_sem] theorem f141_rs : Tryz.f141.results.toList = [.tmp 6] := by kernel_rfl
@[go_sem] theorem f141_nt : Tryz.f141.ntmps = 15 := by kernel_rfl
@[go_sem] theorem f142_en : entersB Tryz.prog 142 = true := by kernel_rfl
@[go_sem] theorem f142_rs : Tryz.f142.results.toList = [.tmp 10] := by kernel_rfl
@[go_sem] theorem f142_nt : Tryz.f142.ntmps = 36 := by kernel_rfl
@[go_sem] theorem f143_en : entersB Tryz.prog 143 = true := by kernel_rfl
@[go_sem] theorem f143_rs : Tryz.f143.results.toList = [.tmp 10, .tmp 11] := by kernel_rfl
@[go_sem] theorem f143_nt : Tryz.f143.ntmps = 32 := by kernel_rfl
@[go_sem] theorem f144_en : entersB Tryz.prog 144 = true := by kernel_rfl
@[go_sem] theorem f144_rs : Tryz.f144.results.toList = [.tmp 4] := by kernel_rfl
@[go_sem] theorem f144_nt : Tryz.f144.ntmps = 8 := by kernel_rfl
@[go_sem] theorem f145_en : entersB Tryz.prog 145 = true := by kernel_rfl
@[go_sem] theorem f145_rs : Tryz.f145.results.toList = [.tmp 2] := by kernel_rfl
@[go_sem] theorem f145_nt : Tryz.f145.ntmps = 87 := by kernel_rfl
@[go_sem] theorem f147_en : entersB Tryz.prog 147 = true := by kernel_rfl
@[go_sem] theorem f147_rs : Tryz.f147.results.toList = [.tmp 8, .tmp 9] := by kernel_rfl
@[go_sem] theorem f147_nt : Tryz.f147.ntmps = 28 := by kernel_rfl
@[go_sem] theorem f148_en : entersB Tryz.prog 148 = true := by kernel_rfl
@[go_sem] theorem f148_rs : Tryz.f148.results.toList = [.tmp 4] := by kernel_rfl
@[go_sem] theorem f148_nt : Tryz.f148.ntmps = 143 := by kernel_rfl
@[go_sem] theorem f149_en : entersB Tryz.prog 149 = true := by kernel_rfl
@[go_sem] theorem f149_rs : Tryz.f149.results.toList = [.tmp 4] := by kernel_rfl
@[go_sem] theorem f149_nt : Tryz.f149.ntmps = 20 := by kernel_rfl
@[go_sem] theorem f150_en : entersB Tryz.prog 150 = true := by kernel_rfl
@[go_sem] theorem f150_rs : Tryz.f150.results.toList = [.tmp 2] := by kernel_rfl
@[go_sem] theorem f150_nt : Tryz.f150.ntmps = 26 := by kernel_rfl
@[go_sem] theorem f151_en : entersB Tryz.prog 151 = true := by kernel_rfl
@[go_sem] theorem f151_rs : Tryz.f151.results.toList = [.tmp 2, .tmp 3] := by kernel_rfl
@[go_sem] theorem f151_nt : Tryz.f151.ntmps = 18 := by kernel_rfl
@[go_sem] theorem f152_en : entersB Tryz.prog 152 = true := by kernel_rfl
@[go_sem] theorem f152_rs : Tryz.f152.results.toList = [.tmp 4] := by kernel_rfl
@[go_sem] theorem f152_nt : Tryz.f152.ntmps = 62 := by kernel_rfl
@[go_sem] theorem f153_en : entersB Tryz.prog 153 = true := by kernel_rfl
@[go_sem] theorem f153_rs : Tryz.f153.results.toList = [.tmp 2] := by kernel_rfl
@[go_sem] theorem f153_nt : Tryz.f153.ntmps = 12 := by kernel_rfl
@[go_sem] theorem f154_en : entersB Tryz.prog 154 = true := by kernel_rfl
@[go_sem] theorem f154_rs : Tryz.f154.results.toList = [.tmp 4] := by kernel_rfl
@[go_sem] theorem f154_nt : Tryz.f154.ntmps = 44 := by kernel_rfl
@[go_sem] theorem f156_en : entersB Tryz.prog 156 = true := by kernel_rfl
@[go_sem] theorem f156_rs : Tryz.f156.results.toList = [.tmp 2] := by kernel_rfl
@[go_sem] theorem f156_nt : Tryz.f156.ntmps = 6 := by kernel_rfl
@[go_sem] theorem f157_en : entersB Tryz.prog 157 = true := by kernel_rfl
@[go_sem] theorem f157_rs : Tryz.f157.results.toList = [.tmp 4] := by kernel_rfl
@[go_sem] theorem f157_nt : Tryz.f157.ntmps = 81 := by kernel_rfl
@[go_sem] theorem f158_en : entersB Tryz.prog 158 = true := by kernel_rfl
@[go_sem] theorem f158_rs : Tryz.f158.results.toList = [.tmp 2, .tmp 3] := by kernel_rfl
@[go_sem] theorem f158_nt : Tryz.f158.ntmps = 77 := by kernel_rfl
@[go_sem] theorem f159_en : entersB Tryz.prog 159 = true := by kernel_rfl
@[go_sem] theorem f159_rs : Tryz.f159.results.toList = [.tmp 10] := by kernel_rfl
@[go_sem] theorem f159_nt : Tryz.f159.ntmps = 43 := by kernel_rfl
@[go_sem] theorem f160_en : entersB Tryz.prog 160 = true := by kernel_rfl
@[go_sem] theorem f160_rs : Tryz.f160.results.toList = [] := by kernel_rfl
@[go_sem] theorem f160_nt : Tryz.f160.ntmps = 19 := by kernel_rfl
@[go_sem] theorem f161_en : entersB Tryz.prog 161 = true := by kernel_rfl
@[go_sem] theorem f161_rs : Tryz.f161.results.toList = [.tmp 2, .tmp 3] := by kernel_rfl
@[go_sem] theorem f161_nt : Tryz.f161.ntmps = 39 := by kernel_rfl
@[go_sem] theorem f162_en : entersB Tryz.prog 162 = true := by kernel_rfl
@[go_sem] theorem f162_rs : Tryz.f162.results.toList = [.tmp 6, .tmp 7] := by kernel_rfl
@[go_sem] theorem f162_nt : Tryz.f162.ntmps = 73 := by kernel_rfl
@[go_sem] theorem f163_en : entersB Tryz.prog 163 = true := by kernel_rfl
@[go_sem] theorem f163_rs : Tryz.f163.results.toList = [.tmp 4] := by kernel_rfl
@[go_sem] theorem f163_nt : Tryz.f163.ntmps = 11 := by kernel_rfl
@[go_sem] theorem f164_en : entersB Tryz.prog 164 = true := by kernel_rfl
@[go_sem] theorem f164_rs : Tryz.f164.results.toList = [.tmp 4] := by kernel_rfl
@[go_sem] theorem f164_nt : Tryz.f164.ntmps = 11 := by kernel_rfl
@[go_sem] theorem f165_en : entersB Tryz.prog 165 = true := by kernel_rfl
@[go_sem] theorem f165_rs : Tryz.f165.results.toList = [.tmp 6] := by kernel_rfl
@[go_sem] theorem f165_nt : Tryz.f165.ntmps = 16 := by kernel_rfl
@[go_sem] theorem f166_en : entersB Tryz.prog 166 = true := by kernel_rfl
@[go_sem] theorem f166_rs : Tryz.f166.results.toList = [.tmp 6] := by kernel_rfl
@[go_sem] theorem f166_nt : Tryz.f166.ntmps = 16 := by kernel_rfl
@[go_sem] theorem f167_en : entersB Tryz.prog 167 = true := by kernel_rfl
@[go_sem] theorem f167_rs : Tryz.f167.results.toList = [.tmp 6, .tmp 7] := by kernel_rfl
@[go_sem] theorem f167_nt : Tryz.f167.ntmps = 172 := by kernel_rfl
@[go_sem] theorem f168_en : entersB Tryz.prog 168 = true := by kernel_rfl
@[go_sem] theorem f168_rs : Tryz.f168.results.toList = [.tmp 2] := by kernel_rfl
@[go_sem] theorem f168_nt : Tryz.f168.ntmps = 18 := by kernel_rfl
@[go_sem] theorem f169_en : entersB Tryz.prog 169 = true := by kernel_rfl
@[go_sem] theorem f169_rs : Tryz.f169.results.toList = [.tmp 2] := by kernel_rfl
@[go_sem] theorem f169_nt : Tryz.f169.ntmps = 7 := by kernel_rfl
@[go_sem] theorem f170_en : entersB Tryz.prog 170 = true := by kernel_rfl
@[go_sem] theorem f170_rs : Tryz.f170.results.toList = [.tmp 2] := by kernel_rfl
@[go_sem] theorem f170_nt : Tryz.f170.ntmps = 5 := by kernel_rfl
@[go_sem] theorem f171_en : entersB Tryz.prog 171 = true := by kernel_rfl
@[go_sem] theorem f171_rs : Tryz.f171.results.toList = [.tmp 2] := by kernel_rfl
@[go_sem] theorem f171_nt : Tryz.f171.ntmps = 5 := by kernel_rfl
@[go_sem] theorem f172_en : entersB Tryz.prog 172 = true := by kernel_rfl
@[go_sem] theorem f172_rs : Tryz.f172.results.toList = [.tmp 2] := by kernel_rfl
@[go_sem] theorem f172_nt : Tryz.f172.ntmps = 94 := by kernel_rfl
@[go_sem] theorem f173_en : entersB Tryz.prog 173 = true := by kernel_rfl
@[go_sem] theorem f173_rs : Tryz.f173.results.toList = [.tmp 2] := by kernel_rfl
@[go_sem] theorem f173_nt : Tryz.f173.ntmps = 5 := by kernel_rfl
@[go_sem] theorem f174_en : entersB Tryz.prog 174 = true := by kernel_rfl
@[go_sem] theorem f174_rs : Tryz.f174.results.toList = [.tmp 4] := by kernel_rfl
@[go_sem] theorem f174_nt : Tryz.f174.ntmps = 54 := by kernel_rfl
@[go_sem] theorem f175_en : entersB Tryz.prog 175 = true := by kernel_rfl
@[go_sem] theorem f175_rs : Tryz.f175.results.toList = [.tmp 2] := by kernel_rfl
@[go_sem] theorem f175_nt : Tryz.f175.ntmps = 15 := by kernel_rfl
@[go_sem] theorem f176_en : entersB Tryz.prog 176 = true := by kernel_rfl
@[go_sem] theorem f176_rs : Tryz.f176.results.toList = [.tmp 2] := by kernel_rfl
@[go_sem] theorem f176_nt : Tryz.f176.ntmps = 15 := by kernel_rfl
@[go_sem] theorem f177_en : entersB Tryz.prog 177 = true := by kernel_rfl
@[go_sem] theorem f177_rs : Tryz.f177.results.toList = [] := by kernel_rfl
@[go_sem] theorem f177_nt : Tryz.f177.ntmps = 167 := by kernel_rfl
@[go_sem] theorem f178_en : entersB Tryz.prog 178 = true := by kernel_rfl
@[go_sem] theorem f178_rs : Tryz.f178.results.toList = [.tmp 10, .tmp 11] := by kernel_rfl
@[go_sem] theorem f178_nt : Tryz.f178.ntmps = 102 := by kernel_rfl
@[go_sem] theorem f179_en : entersB Tryz.prog 179 = true := by kernel_rfl
@[go_sem] theorem f179_rs : Tryz.f179.results.toList = [.tmp 2] := by kernel_rfl
@[go_sem] theorem f179_nt : Tryz.f179.ntmps = 6 := by kernel_rfl
@[go_sem] theorem f180_en : entersB Tryz.prog 180 = true := by kernel_rfl
@[go_sem] theorem f180_rs : Tryz.f180.results.toList = [.tmp 2] := by kernel_rfl
@[go_sem] theorem f180_nt : Tryz.f180.ntmps = 4 := by kernel_rfl
@[go_sem] theorem f181_en : entersB Tryz.prog 181 = true := by kernel_rfl
@[go_sem] theorem f181_rs : Tryz.f181.results.toList = [.tmp 2] := by kernel_rfl
@[go_sem] theorem f181_nt : Tryz.f181.ntmps = 8 := by kernel_rfl
@[go_sem] theorem f182_en : entersB Tryz.prog 182 = true := by kernel_rfl
@[go_sem] theorem f182_rs : Tryz.f182.results.toList = [.tmp 2] := by kernel_rfl
@[go_sem] theorem f182_nt : Tryz.f182.ntmps = 8 := by kernel_rfl
@[go_sem] theorem f183_en : entersB Tryz.prog 183 = true := by kernel_rfl
@[go_sem] theorem f183_rs : Tryz.f183.results.toList = [.tmp 2] := by kernel_rfl
@[go_sem] theorem f183_nt : Tryz.f183.ntmps = 14 := by kernel_rfl
@[go_sem] theorem f184_en : entersB Tryz.prog 184 = true := by kernel_rfl
@[go_sem] theorem f184_rs : Tryz.f184.results.toList = [.tmp 2] := by kernel_rfl
@[go_sem] theorem f184_nt : Tryz.f184.ntmps = 14 := by kernel_rfl
@[go_sem] theorem f213_en : entersB Tryz.prog 213 = true := by kernel_rfl
@[go_sem] theorem f213_rs : Tryz.f213.results.toList = [] := by kernel_rfl
@[go_sem] theorem f213_nt : Tryz.f213.ntmps = 5 := by kernel_rfl
@[go_sem] theorem f0_en : entersB Tryz.prog 0 = false := by kernel_rfl
@[go_sem] theorem f1_en : entersB Tryz.prog 1 = false := by kernel_rfl
@[go_sem] theorem f130_en : entersB Tryz.prog 130 = false := by kernel_rfl
@[go_sem] theorem f146_en : entersB Tryz.prog 146 = false := by kernel_rfl
@[go_sem] theorem f155_en : entersB Tryz.prog 155 = false := by kernel_rfl
@[go_sem] theorem f185_en : entersB Tryz.prog 185 = false := by kernel_rfl
@[go_sem] theorem f186_en : entersB Tryz.prog 186 = false := by kernel_rfl
@[go_sem] theorem f187_en : entersB Tryz.prog 187 = false := by kernel_rfl
@[go_sem] theorem f188_en : entersB Tryz.prog 188 = false := by kernel_rfl
@[go_sem] theorem f189_en : entersB Tryz.prog 189 = false := by kernel_rfl
@[go_sem] theorem f190_en : entersB Tryz.prog 190 = false := by kernel_rfl
@[go_sem] theorem f191_en : entersB Tryz.prog 191 = false := by kernel_rfl
@[go_sem] theorem f192_en : entersB Tryz.prog 192 = false := by kernel_rfl
@[go_sem] theorem f193_en : entersB Tryz.prog 193 = false := by kernel_rfl
@[go_sem] theorem f194_en : entersB Tryz.prog 194 = false := by kernel_rfl
@[go_sem] theorem f195_en : entersB Tryz.prog 195 = false := by kernel_rfl
@[go_sem] theorem f196_en : entersB Tryz.prog 196 = false := by kernel_rfl
@[go_sem] theorem f197_en : entersB Tryz.prog 197 = false := by kernel_rfl
@[go_sem] theorem f198_en : entersB Tryz.prog 198 = false := by kernel_rfl
@[go_sem] theorem f199_en : entersB Tryz.prog 199 = false := by kernel_rfl
@[go_sem] theorem f200_en : entersB Tryz.prog 200 = false := by kernel_rfl
@[go_sem] theorem f201_en : entersB Tryz.prog 201 = false := by kernel_rfl
@[go_sem] theorem f202_en : entersB Tryz.prog 202 = false := by kernel_rfl
@[go_sem] theorem f203_en : entersB Tryz.prog 203 = false := by kernel_rfl
@[go_sem] theorem f204_en : entersB Tryz.prog 204 = false := by kernel_rfl
@[go_sem] theorem f205_en : entersB Tryz.prog 205 = false := by kernel_rfl
@[go_sem] theorem f206_en : entersB Tryz.prog 206 = false := by kernel_rfl
@[go_sem] theorem f207_en : entersB Tryz.prog 207 = false := by kernel_rfl
@[go_sem] theorem f208_en : entersB Tryz.prog 208 = false := by kernel_rfl
@[go_sem] theorem f209_en : entersB Tryz.prog 209 = false := by kernel_rfl
@[go_sem] theorem f210_en : entersB Tryz.prog 210 = false := by kernel_rfl
@[go_sem] theorem f211_en : entersB Tryz.prog 211 = false := by kernel_rfl
@[go_sem] theorem f212_en : entersB Tryz.prog 212 = false := by kernel_rfl
end Go.Proofs.YtnpdbnkgipkgaaaGreatDoor
