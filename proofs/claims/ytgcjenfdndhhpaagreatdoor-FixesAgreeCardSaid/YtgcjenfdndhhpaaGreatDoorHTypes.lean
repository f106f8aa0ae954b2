/- Facts on the types. No condition. -/
import Derived.Test.YtgcjenfdndhhpaaGreatDoorRows
import Derived.Test.YtgcjenfdndhhpaaGreatDoorHCoreC
namespace Go.Proofs.YtgcjenfdndhhpaaGreatDoor
open Go Go.RowKit
@[go_sem] theorem t3_ag : aggT Tryz.prog 3 = false := by kernel_rfl
@[go_sem] theorem t3_sz : szT Tryz.prog 3 = 1 := by kernel_rfl
@[go_sem] theorem t3_in : (Tryz.prog.info? 3).isSome = true := by kernel_rfl
@[go_sem] theorem t3_un : (Tryz.prog.underlying 3).isSome = true := by kernel_rfl
@[go_sem] theorem t3_ze : zeroT Tryz.prog 3 = some [.int .i64 0] := by kernel_rfl
@[go_sem] theorem t3_by : Tryz.prog.bytesOf 3 = 8 := by kernel_rfl
@[go_sem] theorem t4_ag : aggT Tryz.prog 4 = false := by kernel_rfl
@[go_sem] theorem t4_sz : szT Tryz.prog 4 = 1 := by kernel_rfl
@[go_sem] theorem t4_in : (Tryz.prog.info? 4).isSome = true := by kernel_rfl
@[go_sem] theorem t4_un : (Tryz.prog.underlying 4).isSome = true := by kernel_rfl
@[go_sem] theorem t4_ze : zeroT Tryz.prog 4 = some [.bool false] := by kernel_rfl
@[go_sem] theorem t4_by : Tryz.prog.bytesOf 4 = 1 := by kernel_rfl
@[go_sem] theorem t5_ag : aggT Tryz.prog 5 = false := by kernel_rfl
@[go_sem] theorem t5_sz : szT Tryz.prog 5 = 1 := by kernel_rfl
@[go_sem] theorem t5_in : (Tryz.prog.info? 5).isSome = true := by kernel_rfl
@[go_sem] theorem t5_un : (Tryz.prog.underlying 5).isSome = true := by kernel_rfl
@[go_sem] theorem t5_ze : zeroT Tryz.prog 5 = some [.int .u8 0] := by kernel_rfl
@[go_sem] theorem t5_by : Tryz.prog.bytesOf 5 = 1 := by kernel_rfl
@[go_sem] theorem t9_ag : aggT Tryz.prog 9 = false := by kernel_rfl
@[go_sem] theorem t9_sz : szT Tryz.prog 9 = 1 := by kernel_rfl
@[go_sem] theorem t9_in : (Tryz.prog.info? 9).isSome = true := by kernel_rfl
@[go_sem] theorem t9_un : (Tryz.prog.underlying 9).isSome = true := by kernel_rfl
@[go_sem] theorem t9_ze : zeroT Tryz.prog 9 = some [.str ⟨#[]⟩] := by kernel_rfl
@[go_sem] theorem t9_by : Tryz.prog.bytesOf 9 = 16 := by kernel_rfl
@[go_sem] theorem t22_ag : aggT Tryz.prog 22 = false := by kernel_rfl
@[go_sem] theorem t22_sz : szT Tryz.prog 22 = 1 := by kernel_rfl
@[go_sem] theorem t22_in : (Tryz.prog.info? 22).isSome = true := by kernel_rfl
@[go_sem] theorem t22_un : (Tryz.prog.underlying 22).isSome = true := by kernel_rfl
@[go_sem] theorem t22_ze : zeroT Tryz.prog 22 = some [.sl none 0] := by kernel_rfl
@[go_sem] theorem t22_by : Tryz.prog.bytesOf 22 = 24 := by kernel_rfl
@[go_sem] theorem t25_ag : aggT Tryz.prog 25 = true := by kernel_rfl
@[go_sem] theorem t25_sz : szT Tryz.prog 25 = 2 := by kernel_rfl
@[go_sem] theorem t25_in : (Tryz.prog.info? 25).isSome = true := by kernel_rfl
@[go_sem] theorem t25_un : (Tryz.prog.underlying 25).isSome = true := by kernel_rfl
@[go_sem] theorem t25_ze : zeroT Tryz.prog 25 = some [.sl none 0, .int .i64 0] := by kernel_rfl
@[go_sem] theorem t25_by : Tryz.prog.bytesOf 25 = 32 := by kernel_rfl
@[go_sem] theorem t25_fo : fieldsOk Tryz.prog 25 = true := by kernel_rfl
@[go_sem] theorem t26_ag : aggT Tryz.prog 26 = false := by kernel_rfl
@[go_sem] theorem t26_sz : szT Tryz.prog 26 = 1 := by kernel_rfl
@[go_sem] theorem t26_in : (Tryz.prog.info? 26).isSome = true := by kernel_rfl
@[go_sem] theorem t26_un : (Tryz.prog.underlying 26).isSome = true := by kernel_rfl
@[go_sem] theorem t26_ze : zeroT Tryz.prog 26 = some [.sl none 0] := by kernel_rfl
@[go_sem] theorem t26_by : Tryz.prog.bytesOf 26 = 24 := by kernel_rfl
@[go_sem] theorem t28_ag : aggT Tryz.prog 28 = false := by kernel_rfl
@[go_sem] theorem t28_sz : szT Tryz.prog 28 = 1 := by kernel_rfl
@[go_sem] theorem t28_in : (Tryz.prog.info? 28).isSome = true := by kernel_rfl
@[go_sem] theorem t28_un : (Tryz.prog.underlying 28).isSome = true := by kernel_rfl
@[go_sem] theorem t28_ze : zeroT Tryz.prog 28 = some [.sl none 0] := by kernel_rfl
@[go_sem] theorem t28_by : Tryz.prog.bytesOf 28 = 24 := by kernel_rfl
@[go_sem] theorem t31_ag : aggT Tryz.prog 31 = true := by kernel_rfl
@[go_sem] theorem t31_sz : szT Tryz.prog 31 = 2 := by kernel_rfl
@[go_sem] theorem t31_in : (Tryz.prog.info? 31).isSome = true := by kernel_rfl
@[go_sem] theorem t31_un : (Tryz.prog.underlying 31).isSome = true := by kernel_rfl
@[go_sem] theorem t31_ze : zeroT Tryz.prog 31 = some [.int .i64 0, .int .i64 0] := by kernel_rfl
@[go_sem] theorem t31_by : Tryz.prog.bytesOf 31 = 16 := by kernel_rfl
@[go_sem] theorem t31_fo : fieldsOk Tryz.prog 31 = true := by kernel_rfl
@[go_sem] theorem t32_ag : aggT Tryz.prog 32 = false := by kernel_rfl
@[go_sem] theorem t32_sz : szT Tryz.prog 32 = 1 := by kernel_rfl
@[go_sem] theorem t32_in : (Tryz.prog.info? 32).isSome = true := by kernel_rfl
@[go_sem] theorem t32_un : (Tryz.prog.underlying 32).isSome = true := by kernel_rfl
@[go_sem] theorem t32_ze : zeroT Tryz.prog 32 = some [.int .i64 0] := by kernel_rfl
@[go_sem] theorem t32_by : Tryz.prog.bytesOf 32 = 8 := by kernel_rfl
@[go_sem] theorem t43_ag : aggT Tryz.prog 43 = true := by kernel_rfl
@[go_sem] theorem t43_sz : szT Tryz.prog 43 = 3 := by kernel_rfl
@[go_sem] theorem t43_in : (Tryz.prog.info? 43).isSome = true := by kernel_rfl
@[go_sem] theorem t43_un : (Tryz.prog.underlying 43).isSome = true := by kernel_rfl
@[go_sem] theorem t43_ze : zeroT Tryz.prog 43 = some [.int .i64 0, .int .i64 0, .int .i64 0] := by kernel_rfl
@[go_sem] theorem t43_by : Tryz.prog.bytesOf 43 = 24 := by kernel_rfl
@[go_sem] theorem t43_fo : fieldsOk Tryz.prog 43 = true := by kernel_rfl
@[go_sem] theorem t46_ag : aggT Tryz.prog 46 = true := by kernel_rfl
@[go_sem] theorem t46_sz : szT Tryz.prog 46 = 7 := by kernel_rfl
@[go_sem] theorem t46_in : (Tryz.prog.info? 46).isSome = true := by kernel_rfl
@[go_sem] theorem t46_un : (Tryz.prog.underlying 46).isSome = true := by kernel_rfl
@[go_sem] theorem t46_ze : zeroT Tryz.prog 46 = some [.int .i64 0, .int .i64 0, .str ⟨#[]⟩, .int .i64 0, .int .i64 0, .int .i64 0, .bool false] := by kernel_rfl
@[go_sem] theorem t46_by : Tryz.prog.bytesOf 46 = 64 := by kernel_rfl
@[go_sem] theorem t46_fo : fieldsOk Tryz.prog 46 = true := by kernel_rfl
@[go_sem] theorem t62_ag : aggT Tryz.prog 62 = false := by kernel_rfl
@[go_sem] theorem t62_sz : szT Tryz.prog 62 = 1 := by kernel_rfl
@[go_sem] theorem t62_in : (Tryz.prog.info? 62).isSome = true := by kernel_rfl
@[go_sem] theorem t62_un : (Tryz.prog.underlying 62).isSome = true := by kernel_rfl
@[go_sem] theorem t62_ze : zeroT Tryz.prog 62 = some [.sl none 0] := by kernel_rfl
@[go_sem] theorem t62_by : Tryz.prog.bytesOf 62 = 24 := by kernel_rfl
@[go_sem] theorem t67_ag : aggT Tryz.prog 67 = true := by kernel_rfl
@[go_sem] theorem t67_sz : szT Tryz.prog 67 = 11 := by kernel_rfl
@[go_sem] theorem t67_in : (Tryz.prog.info? 67).isSome = true := by kernel_rfl
@[go_sem] theorem t67_un : (Tryz.prog.underlying 67).isSome = true := by kernel_rfl
@[go_sem] theorem t67_ze : zeroT Tryz.prog 67 = some [.str ⟨#[]⟩, .int .i64 0, .int .i64 0, .int .i64 0, .int .i64 0, .int .i64 0, .int .i64 0, .int .i64 0, .int .i64 0, .int .i64 0, .int .i64 0] := by kernel_rfl
@[go_sem] theorem t67_by : Tryz.prog.bytesOf 67 = 96 := by kernel_rfl
@[go_sem] theorem t67_fo : fieldsOk Tryz.prog 67 = true := by kernel_rfl
@[go_sem] theorem t87_ag : aggT Tryz.prog 87 = false := by kernel_rfl
@[go_sem] theorem t87_sz : szT Tryz.prog 87 = 1 := by kernel_rfl
@[go_sem] theorem t87_in : (Tryz.prog.info? 87).isSome = true := by kernel_rfl
@[go_sem] theorem t87_un : (Tryz.prog.underlying 87).isSome = true := by kernel_rfl
@[go_sem] theorem t87_ze : zeroT Tryz.prog 87 = some [.sl none 0] := by kernel_rfl
@[go_sem] theorem t87_by : Tryz.prog.bytesOf 87 = 24 := by kernel_rfl
@[go_sem] theorem t88_ag : aggT Tryz.prog 88 = false := by kernel_rfl
@[go_sem] theorem t88_sz : szT Tryz.prog 88 = 1 := by kernel_rfl
@[go_sem] theorem t88_in : (Tryz.prog.info? 88).isSome = true := by kernel_rfl
@[go_sem] theorem t88_un : (Tryz.prog.underlying 88).isSome = true := by kernel_rfl
@[go_sem] theorem t88_ze : zeroT Tryz.prog 88 = some [.map none] := by kernel_rfl
@[go_sem] theorem t88_by : Tryz.prog.bytesOf 88 = 8 := by kernel_rfl
@[go_sem] theorem t90_ag : aggT Tryz.prog 90 = true := by kernel_rfl
@[go_sem] theorem t90_sz : szT Tryz.prog 90 = 4 := by kernel_rfl
@[go_sem] theorem t90_in : (Tryz.prog.info? 90).isSome = true := by kernel_rfl
@[go_sem] theorem t90_un : (Tryz.prog.underlying 90).isSome = true := by kernel_rfl
@[go_sem] theorem t90_ze : zeroT Tryz.prog 90 = some [.sl none 0, .int .i64 0, .sl none 0, .map none] := by kernel_rfl
@[go_sem] theorem t90_by : Tryz.prog.bytesOf 90 = 64 := by kernel_rfl
@[go_sem] theorem t90_fo : fieldsOk Tryz.prog 90 = true := by kernel_rfl
@[go_sem] theorem t95_ag : aggT Tryz.prog 95 = true := by kernel_rfl
@[go_sem] theorem t95_sz : szT Tryz.prog 95 = 8 := by kernel_rfl
@[go_sem] theorem t95_in : (Tryz.prog.info? 95).isSome = true := by kernel_rfl
@[go_sem] theorem t95_un : (Tryz.prog.underlying 95).isSome = true := by kernel_rfl
@[go_sem] theorem t95_ze : zeroT Tryz.prog 95 = some [.int .i64 0, .int .i64 0, .str ⟨#[]⟩, .int .i64 0, .int .i64 0, .int .i64 0, .bool false, .sl none 0] := by kernel_rfl
@[go_sem] theorem t95_by : Tryz.prog.bytesOf 95 = 88 := by kernel_rfl
@[go_sem] theorem t95_fo : fieldsOk Tryz.prog 95 = true := by kernel_rfl
@[go_sem] theorem t107_ag : aggT Tryz.prog 107 = true := by kernel_rfl
@[go_sem] theorem t107_sz : szT Tryz.prog 107 = 5 := by kernel_rfl
@[go_sem] theorem t107_in : (Tryz.prog.info? 107).isSome = true := by kernel_rfl
@[go_sem] theorem t107_un : (Tryz.prog.underlying 107).isSome = true := by kernel_rfl
@[go_sem] theorem t107_ze : zeroT Tryz.prog 107 = some [.int .i64 0, .str ⟨#[]⟩, .int .i64 0, .int .i64 0, .int .i64 0] := by kernel_rfl
@[go_sem] theorem t107_by : Tryz.prog.bytesOf 107 = 48 := by kernel_rfl
@[go_sem] theorem t107_fo : fieldsOk Tryz.prog 107 = true := by kernel_rfl
@[go_sem] theorem t109_ag : aggT Tryz.prog 109 = true := by kernel_rfl
@[go_sem] theorem t109_sz : szT Tryz.prog 109 = 7 := by kernel_rfl
@[go_sem] theorem t109_in : (Tryz.prog.info? 109).isSome = true := by kernel_rfl
@[go_sem] theorem t109_un : (Tryz.prog.underlying 109).isSome = true := by kernel_rfl
@[go_sem] theorem t109_ze : zeroT Tryz.prog 109 = some [.str ⟨#[]⟩, .int .i64 0, .int .i64 0, .str ⟨#[]⟩, .int .i64 0, .int .i64 0, .int .i64 0] := by kernel_rfl
@[go_sem] theorem t109_by : Tryz.prog.bytesOf 109 = 72 := by kernel_rfl
@[go_sem] theorem t109_fo : fieldsOk Tryz.prog 109 = true := by kernel_rfl
@[go_sem] theorem t127_ag : aggT Tryz.prog 127 = false := by kernel_rfl
@[go_sem] theorem t127_sz : szT Tryz.prog 127 = 1 := by kernel_rfl
@[go_sem] theorem t127_in : (Tryz.prog.info? 127).isSome = true := by kernel_rfl
@[go_sem] theorem t127_un : (Tryz.prog.underlying 127).isSome = true := by kernel_rfl
@[go_sem] theorem t127_ze : zeroT Tryz.prog 127 = some [.map none] := by kernel_rfl
@[go_sem] theorem t127_by : Tryz.prog.bytesOf 127 = 8 := by kernel_rfl
@[go_sem] theorem t156_ag : aggT Tryz.prog 156 = false := by kernel_rfl
@[go_sem] theorem t156_sz : szT Tryz.prog 156 = 1 := by kernel_rfl
@[go_sem] theorem t156_in : (Tryz.prog.info? 156).isSome = true := by kernel_rfl
@[go_sem] theorem t156_un : (Tryz.prog.underlying 156).isSome = true := by kernel_rfl
@[go_sem] theorem t156_ze : zeroT Tryz.prog 156 = some [.int .u64 0] := by kernel_rfl
@[go_sem] theorem t156_by : Tryz.prog.bytesOf 156 = 8 := by kernel_rfl
@[go_sem] theorem t160_ag : aggT Tryz.prog 160 = false := by kernel_rfl
@[go_sem] theorem t160_sz : szT Tryz.prog 160 = 1 := by kernel_rfl
@[go_sem] theorem t160_in : (Tryz.prog.info? 160).isSome = true := by kernel_rfl
@[go_sem] theorem t160_un : (Tryz.prog.underlying 160).isSome = true := by kernel_rfl
@[go_sem] theorem t160_ze : zeroT Tryz.prog 160 = some [.sl none 0] := by kernel_rfl
@[go_sem] theorem t160_by : Tryz.prog.bytesOf 160 = 24 := by kernel_rfl
@[go_sem] theorem t161_ag : aggT Tryz.prog 161 = false := by kernel_rfl
@[go_sem] theorem t161_sz : szT Tryz.prog 161 = 1 := by kernel_rfl
@[go_sem] theorem t161_in : (Tryz.prog.info? 161).isSome = true := by kernel_rfl
@[go_sem] theorem t161_un : (Tryz.prog.underlying 161).isSome = true := by kernel_rfl
@[go_sem] theorem t161_ze : zeroT Tryz.prog 161 = some [.ptr none] := by kernel_rfl
@[go_sem] theorem t161_by : Tryz.prog.bytesOf 161 = 8 := by kernel_rfl
@[go_sem] theorem t166_ag : aggT Tryz.prog 166 = true := by kernel_rfl
@[go_sem] theorem t166_sz : szT Tryz.prog 166 = 2 := by kernel_rfl
@[go_sem] theorem t166_in : (Tryz.prog.info? 166).isSome = true := by kernel_rfl
@[go_sem] theorem t166_un : (Tryz.prog.underlying 166).isSome = true := by kernel_rfl
@[go_sem] theorem t166_ze : zeroT Tryz.prog 166 = some [.int .i64 0, .int .i64 0] := by kernel_rfl
@[go_sem] theorem t166_by : Tryz.prog.bytesOf 166 = 16 := by kernel_rfl
@[go_sem] theorem t166_fo : fieldsOk Tryz.prog 166 = true := by kernel_rfl
@[go_sem] theorem t168_ag : aggT Tryz.prog 168 = false := by kernel_rfl
@[go_sem] theorem t168_sz : szT Tryz.prog 168 = 1 := by kernel_rfl
@[go_sem] theorem t168_in : (Tryz.prog.info? 168).isSome = true := by kernel_rfl
@[go_sem] theorem t168_un : (Tryz.prog.underlying 168).isSome = true := by kernel_rfl
@[go_sem] theorem t168_ze : zeroT Tryz.prog 168 = some [.nilf] := by kernel_rfl
@[go_sem] theorem t168_by : Tryz.prog.bytesOf 168 = 8 := by kernel_rfl
@[go_sem] theorem t172_ag : aggT Tryz.prog 172 = false := by kernel_rfl
@[go_sem] theorem t172_sz : szT Tryz.prog 172 = 1 := by kernel_rfl
@[go_sem] theorem t172_in : (Tryz.prog.info? 172).isSome = true := by kernel_rfl
@[go_sem] theorem t172_un : (Tryz.prog.underlying 172).isSome = true := by kernel_rfl
@[go_sem] theorem t172_ze : zeroT Tryz.prog 172 = some [.map none] := by kernel_rfl
@[go_sem] theorem t172_by : Tryz.prog.bytesOf 172 = 8 := by kernel_rfl
@[go_sem] theorem t190_ag : aggT Tryz.prog 190 = true := by kernel_rfl
@[go_sem] theorem t190_sz : szT Tryz.prog 190 = 2 := by kernel_rfl
@[go_sem] theorem t190_in : (Tryz.prog.info? 190).isSome = true := by kernel_rfl
@[go_sem] theorem t190_un : (Tryz.prog.underlying 190).isSome = true := by kernel_rfl
@[go_sem] theorem t190_ze : zeroT Tryz.prog 190 = some [.str ⟨#[]⟩, .int .i64 0] := by kernel_rfl
@[go_sem] theorem t190_by : Tryz.prog.bytesOf 190 = 24 := by kernel_rfl
@[go_sem] theorem t190_fo : fieldsOk Tryz.prog 190 = true := by kernel_rfl
@[go_sem] theorem t203_ag : aggT Tryz.prog 203 = true := by kernel_rfl
@[go_sem] theorem t203_sz : szT Tryz.prog 203 = 8 := by kernel_rfl
@[go_sem] theorem t203_in : (Tryz.prog.info? 203).isSome = true := by kernel_rfl
@[go_sem] theorem t203_un : (Tryz.prog.underlying 203).isSome = true := by kernel_rfl
@[go_sem] theorem t203_ze : zeroT Tryz.prog 203 = some [.int .i64 0, .int .i64 0, .str ⟨#[]⟩, .int .i64 0, .int .i64 0, .int .i64 0, .bool false, .sl none 0] := by kernel_rfl
@[go_sem] theorem t203_by : Tryz.prog.bytesOf 203 = 88 := by kernel_rfl
@[go_sem] theorem t203_fo : fieldsOk Tryz.prog 203 = true := by kernel_rfl
@[go_sem] theorem t206_ag : aggT Tryz.prog 206 = false := by kernel_rfl
@[go_sem] theorem t206_sz : szT Tryz.prog 206 = 1 := by kernel_rfl
@[go_sem] theorem t206_in : (Tryz.prog.info? 206).isSome = true := by kernel_rfl
@[go_sem] theorem t206_un : (Tryz.prog.underlying 206).isSome = true := by kernel_rfl
@[go_sem] theorem t206_ze : zeroT Tryz.prog 206 = some [.int .u64 0] := by kernel_rfl
@[go_sem] theorem t206_by : Tryz.prog.bytesOf 206 = 8 := by kernel_rfl
@[go_sem] theorem t216_ag : aggT Tryz.prog 216 = true := by kernel_rfl
@[go_sem] theorem t216_sz : szT Tryz.prog 216 = 3 := by kernel_rfl
@[go_sem] theorem t216_in : (Tryz.prog.info? 216).isSome = true := by kernel_rfl
@[go_sem] theorem t216_un : (Tryz.prog.underlying 216).isSome = true := by kernel_rfl
@[go_sem] theorem t216_ze : zeroT Tryz.prog 216 = some [.int .i64 0, .int .i64 0, .str ⟨#[]⟩] := by kernel_rfl
@[go_sem] theorem t216_by : Tryz.prog.bytesOf 216 = 32 := by kernel_rfl
@[go_sem] theorem t216_fo : fieldsOk Tryz.prog 216 = true := by kernel_rfl
@[go_sem] theorem t218_ag : aggT Tryz.prog 218 = true := by kernel_rfl
@[go_sem] theorem t218_sz : szT Tryz.prog 218 = 7 := by kernel_rfl
@[go_sem] theorem t218_in : (Tryz.prog.info? 218).isSome = true := by kernel_rfl
@[go_sem] theorem t218_un : (Tryz.prog.underlying 218).isSome = true := by kernel_rfl
@[go_sem] theorem t218_ze : zeroT Tryz.prog 218 = some [.str ⟨#[]⟩, .int .i64 0, .int .i64 0, .str ⟨#[]⟩, .int .i64 0, .int .i64 0, .int .i64 0] := by kernel_rfl
@[go_sem] theorem t218_by : Tryz.prog.bytesOf 218 = 72 := by kernel_rfl
@[go_sem] theorem t218_fo : fieldsOk Tryz.prog 218 = true := by kernel_rfl
@[go_sem] theorem t222_ag : aggT Tryz.prog 222 = true := by kernel_rfl
@[go_sem] theorem t222_sz : szT Tryz.prog 222 = 2 := by kernel_rfl
@[go_sem] theorem t222_in : (Tryz.prog.info? 222).isSome = true := by kernel_rfl
@[go_sem] theorem t222_un : (Tryz.prog.underlying 222).isSome = true := by kernel_rfl
@[go_sem] theorem t222_ze : zeroT Tryz.prog 222 = some [.str ⟨#[]⟩, .sl none 0] := by kernel_rfl
@[go_sem] theorem t222_by : Tryz.prog.bytesOf 222 = 40 := by kernel_rfl
@[go_sem] theorem t222_fo : fieldsOk Tryz.prog 222 = true := by kernel_rfl
@[go_sem] theorem t223_ag : aggT Tryz.prog 223 = false := by kernel_rfl
@[go_sem] theorem t223_sz : szT Tryz.prog 223 = 1 := by kernel_rfl
@[go_sem] theorem t223_in : (Tryz.prog.info? 223).isSome = true := by kernel_rfl
@[go_sem] theorem t223_un : (Tryz.prog.underlying 223).isSome = true := by kernel_rfl
@[go_sem] theorem t223_ze : zeroT Tryz.prog 223 = some [.sl none 0] := by kernel_rfl
@[go_sem] theorem t223_by : Tryz.prog.bytesOf 223 = 24 := by kernel_rfl
@[go_sem] theorem t225_ag : aggT Tryz.prog 225 = true := by kernel_rfl
@[go_sem] theorem t225_sz : szT Tryz.prog 225 = 5 := by kernel_rfl
@[go_sem] theorem t225_in : (Tryz.prog.info? 225).isSome = true := by kernel_rfl
@[go_sem] theorem t225_un : (Tryz.prog.underlying 225).isSome = true := by kernel_rfl
@[go_sem] theorem t225_ze : zeroT Tryz.prog 225 = some [.str ⟨#[]⟩, .int .i64 0, .str ⟨#[]⟩, .sl none 0, .bool false] := by kernel_rfl
@[go_sem] theorem t225_by : Tryz.prog.bytesOf 225 = 72 := by kernel_rfl
@[go_sem] theorem t225_fo : fieldsOk Tryz.prog 225 = true := by kernel_rfl
@[go_sem] theorem t236_ag : aggT Tryz.prog 236 = true := by kernel_rfl
@[go_sem] theorem t236_sz : szT Tryz.prog 236 = 6 := by kernel_rfl
@[go_sem] theorem t236_in : (Tryz.prog.info? 236).isSome = true := by kernel_rfl
@[go_sem] theorem t236_un : (Tryz.prog.underlying 236).isSome = true := by kernel_rfl
@[go_sem] theorem t236_ze : zeroT Tryz.prog 236 = some [.int .i64 0, .int .i64 0, .int .i64 0, .int .i64 0, .int .i64 0, .int .i64 0] := by kernel_rfl
@[go_sem] theorem t236_by : Tryz.prog.bytesOf 236 = 48 := by kernel_rfl
@[go_sem] theorem t236_fo : fieldsOk Tryz.prog 236 = true := by kernel_rfl
@[go_sem] theorem t247_ag : aggT Tryz.prog 247 = true := by kernel_rfl
@[go_sem] theorem t247_sz : szT Tryz.prog 247 = 3 := by kernel_rfl
@[go_sem] theorem t247_in : (Tryz.prog.info? 247).isSome = true := by kernel_rfl
@[go_sem] theorem t247_un : (Tryz.prog.underlying 247).isSome = true := by kernel_rfl
@[go_sem] theorem t247_ze : zeroT Tryz.prog 247 = some [.sl none 0, .int .i64 0, .bool false] := by kernel_rfl
@[go_sem] theorem t247_by : Tryz.prog.bytesOf 247 = 40 := by kernel_rfl
@[go_sem] theorem t247_fo : fieldsOk Tryz.prog 247 = true := by kernel_rfl
@[go_sem] theorem t277_ag : aggT Tryz.prog 277 = true := by kernel_rfl
@[go_sem] theorem t277_sz : szT Tryz.prog 277 = 2 := by kernel_rfl
@[go_sem] theorem t277_in : (Tryz.prog.info? 277).isSome = true := by kernel_rfl
@[go_sem] theorem t277_un : (Tryz.prog.underlying 277).isSome = true := by kernel_rfl
@[go_sem] theorem t277_ze : zeroT Tryz.prog 277 = some [.str ⟨#[]⟩, .int .i64 0] := by kernel_rfl
@[go_sem] theorem t277_by : Tryz.prog.bytesOf 277 = 24 := by kernel_rfl
@[go_sem] theorem t277_fo : fieldsOk Tryz.prog 277 = true := by kernel_rfl
@[go_sem] theorem t293_ag : aggT Tryz.prog 293 = false := by kernel_rfl
@[go_sem] theorem t293_sz : szT Tryz.prog 293 = 1 := by kernel_rfl
@[go_sem] theorem t293_in : (Tryz.prog.info? 293).isSome = true := by kernel_rfl
@[go_sem] theorem t293_un : (Tryz.prog.underlying 293).isSome = true := by kernel_rfl
@[go_sem] theorem t293_ze : zeroT Tryz.prog 293 = some [.nili] := by kernel_rfl
@[go_sem] theorem t293_by : Tryz.prog.bytesOf 293 = 16 := by kernel_rfl
@[go_sem] theorem t314_ag : aggT Tryz.prog 314 = true := by kernel_rfl
@[go_sem] theorem t314_sz : szT Tryz.prog 314 = 3 := by kernel_rfl
@[go_sem] theorem t314_in : (Tryz.prog.info? 314).isSome = true := by kernel_rfl
@[go_sem] theorem t314_un : (Tryz.prog.underlying 314).isSome = true := by kernel_rfl
@[go_sem] theorem t314_ze : zeroT Tryz.prog 314 = some [.str ⟨#[]⟩, .str ⟨#[]⟩, .nili] := by kernel_rfl
@[go_sem] theorem t314_by : Tryz.prog.bytesOf 314 = 48 := by kernel_rfl
@[go_sem] theorem t314_fo : fieldsOk Tryz.prog 314 = true := by kernel_rfl
@[go_sem] theorem t321_ag : aggT Tryz.prog 321 = true := by kernel_rfl
@[go_sem] theorem t321_sz : szT Tryz.prog 321 = 1 := by kernel_rfl
@[go_sem] theorem t321_in : (Tryz.prog.info? 321).isSome = true := by kernel_rfl
@[go_sem] theorem t321_un : (Tryz.prog.underlying 321).isSome = true := by kernel_rfl
@[go_sem] theorem t321_ze : zeroT Tryz.prog 321 = some [.str ⟨#[]⟩] := by kernel_rfl
@[go_sem] theorem t321_by : Tryz.prog.bytesOf 321 = 16 := by kernel_rfl
@[go_sem] theorem t321_fo : fieldsOk Tryz.prog 321 = true := by kernel_rfl
@[go_sem] theorem t25_f0 : fieldT Tryz.prog 25 0 = some (0, 1) := by kernel_rfl
@[go_sem] theorem t25_f1 : fieldT Tryz.prog 25 1 = some (1, 1) := by kernel_rfl
@[go_sem] theorem t31_f0 : fieldT Tryz.prog 31 0 = some (0, 1) := by kernel_rfl
@[go_sem] theorem t31_f1 : fieldT Tryz.prog 31 1 = some (1, 1) := by kernel_rfl
@[go_sem] theorem t43_f0 : fieldT Tryz.prog 43 0 = some (0, 1) := by kernel_rfl
@[go_sem] theorem t43_f1 : fieldT Tryz.prog 43 1 = some (1, 1) := by kernel_rfl
@[go_sem] theorem t43_f2 : fieldT Tryz.prog 43 2 = some (2, 1) := by kernel_rfl
@[go_sem] theorem t46_f0 : fieldT Tryz.prog 46 0 = some (0, 1) := by kernel_rfl
@[go_sem] theorem t46_f1 : fieldT Tryz.prog 46 1 = some (1, 1) := by kernel_rfl
@[go_sem] theorem t46_f2 : fieldT Tryz.prog 46 2 = some (2, 1) := by kernel_rfl
@[go_sem] theorem t46_f3 : fieldT Tryz.prog 46 3 = some (3, 1) := by kernel_rfl
@[go_sem] theorem t46_f4 : fieldT Tryz.prog 46 4 = some (4, 1) := by kernel_rfl
@[go_sem] theorem t46_f5 : fieldT Tryz.prog 46 5 = some (5, 1) := by kernel_rfl
@[go_sem] theorem t46_f6 : fieldT Tryz.prog 46 6 = some (6, 1) := by kernel_rfl
@[go_sem] theorem t67_f0 : fieldT Tryz.prog 67 0 = some (0, 1) := by kernel_rfl
@[go_sem] theorem t67_f1 : fieldT Tryz.prog 67 1 = some (1, 1) := by kernel_rfl
@[go_sem] theorem t67_f2 : fieldT Tryz.prog 67 2 = some (2, 1) := by kernel_rfl
@[go_sem] theorem t67_f3 : fieldT Tryz.prog 67 3 = some (3, 1) := by kernel_rfl
@[go_sem] theorem t67_f4 : fieldT Tryz.prog 67 4 = some (4, 3) := by kernel_rfl
@[go_sem] theorem t67_f5 : fieldT Tryz.prog 67 5 = some (7, 1) := by kernel_rfl
@[go_sem] theorem t67_f6 : fieldT Tryz.prog 67 6 = some (8, 2) := by kernel_rfl
@[go_sem] theorem t67_f7 : fieldT Tryz.prog 67 7 = some (10, 1) := by kernel_rfl
@[go_sem] theorem t90_f0 : fieldT Tryz.prog 90 0 = some (0, 1) := by kernel_rfl
@[go_sem] theorem t90_f1 : fieldT Tryz.prog 90 1 = some (1, 1) := by kernel_rfl
@[go_sem] theorem t90_f2 : fieldT Tryz.prog 90 2 = some (2, 1) := by kernel_rfl
@[go_sem] theorem t90_f3 : fieldT Tryz.prog 90 3 = some (3, 1) := by kernel_rfl
@[go_sem] theorem t95_f0 : fieldT Tryz.prog 95 0 = some (0, 7) := by kernel_rfl
@[go_sem] theorem t95_f1 : fieldT Tryz.prog 95 1 = some (7, 1) := by kernel_rfl
@[go_sem] theorem t107_f0 : fieldT Tryz.prog 107 0 = some (0, 1) := by kernel_rfl
@[go_sem] theorem t107_f1 : fieldT Tryz.prog 107 1 = some (1, 1) := by kernel_rfl
@[go_sem] theorem t107_f2 : fieldT Tryz.prog 107 2 = some (2, 3) := by kernel_rfl
@[go_sem] theorem t109_f0 : fieldT Tryz.prog 109 0 = some (0, 1) := by kernel_rfl
@[go_sem] theorem t109_f1 : fieldT Tryz.prog 109 1 = some (1, 1) := by kernel_rfl
@[go_sem] theorem t109_f2 : fieldT Tryz.prog 109 2 = some (2, 5) := by kernel_rfl
@[go_sem] theorem t166_f0 : fieldT Tryz.prog 166 0 = some (0, 1) := by kernel_rfl
@[go_sem] theorem t166_f1 : fieldT Tryz.prog 166 1 = some (1, 1) := by kernel_rfl
@[go_sem] theorem t190_f0 : fieldT Tryz.prog 190 0 = some (0, 1) := by kernel_rfl
@[go_sem] theorem t190_f1 : fieldT Tryz.prog 190 1 = some (1, 1) := by kernel_rfl
@[go_sem] theorem t203_f0 : fieldT Tryz.prog 203 0 = some (0, 7) := by kernel_rfl
@[go_sem] theorem t203_f1 : fieldT Tryz.prog 203 1 = some (7, 1) := by kernel_rfl
@[go_sem] theorem t216_f0 : fieldT Tryz.prog 216 0 = some (0, 1) := by kernel_rfl
@[go_sem] theorem t216_f1 : fieldT Tryz.prog 216 1 = some (1, 1) := by kernel_rfl
@[go_sem] theorem t216_f2 : fieldT Tryz.prog 216 2 = some (2, 1) := by kernel_rfl
@[go_sem] theorem t218_f0 : fieldT Tryz.prog 218 0 = some (0, 1) := by kernel_rfl
@[go_sem] theorem t218_f1 : fieldT Tryz.prog 218 1 = some (1, 3) := by kernel_rfl
@[go_sem] theorem t218_f2 : fieldT Tryz.prog 218 2 = some (4, 1) := by kernel_rfl
@[go_sem] theorem t218_f3 : fieldT Tryz.prog 218 3 = some (5, 1) := by kernel_rfl
@[go_sem] theorem t218_f4 : fieldT Tryz.prog 218 4 = some (6, 1) := by kernel_rfl
@[go_sem] theorem t222_f0 : fieldT Tryz.prog 222 0 = some (0, 1) := by kernel_rfl
@[go_sem] theorem t222_f1 : fieldT Tryz.prog 222 1 = some (1, 1) := by kernel_rfl
@[go_sem] theorem t225_f0 : fieldT Tryz.prog 225 0 = some (0, 1) := by kernel_rfl
@[go_sem] theorem t225_f1 : fieldT Tryz.prog 225 1 = some (1, 1) := by kernel_rfl
@[go_sem] theorem t225_f2 : fieldT Tryz.prog 225 2 = some (2, 1) := by kernel_rfl
@[go_sem] theorem t225_f3 : fieldT Tryz.prog 225 3 = some (3, 1) := by kernel_rfl
@[go_sem] theorem t225_f4 : fieldT Tryz.prog 225 4 = some (4, 1) := by kernel_rfl
@[go_sem] theorem t236_f0 : fieldT Tryz.prog 236 0 = some (0, 1) := by kernel_rfl
@[go_sem] theorem t236_f1 : fieldT Tryz.prog 236 1 = some (1, 1) := by kernel_rfl
@[go_sem] theorem t236_f2 : fieldT Tryz.prog 236 2 = some (2, 1) := by kernel_rfl
@[go_sem] theorem t236_f3 : fieldT Tryz.prog 236 3 = some (3, 1) := by kernel_rfl
@[go_sem] theorem t236_f4 : fieldT Tryz.prog 236 4 = some (4, 1) := by kernel_rfl
@[go_sem] theorem t236_f5 : fieldT Tryz.prog 236 5 = some (5, 1) := by kernel_rfl
@[go_sem] theorem t247_f0 : fieldT Tryz.prog 247 0 = some (0, 1) := by kernel_rfl
@[go_sem] theorem t247_f1 : fieldT Tryz.prog 247 1 = some (1, 1) := by kernel_rfl
@[go_sem] theorem t247_f2 : fieldT Tryz.prog 247 2 = some (2, 1) := by kernel_rfl
@[go_sem] theorem t277_f0 : fieldT Tryz.prog 277 0 = some (0, 1) := by kernel_rfl
@[go_sem] theorem t277_f1 : fieldT Tryz.prog 277 1 = some (1, 1) := by kernel_rfl
@[go_sem] theorem t314_f0 : fieldT Tryz.prog 314 0 = some (0, 1) := by kernel_rfl
@[go_sem] theorem t314_f1 : fieldT Tryz.prog 314 1 = some (1, 1) := by kernel_rfl
@[go_sem] theorem t314_f2 : fieldT Tryz.prog 314 2 = some (2, 1) := by kernel_rfl
@[go_sem] theorem t321_f0 : fieldT Tryz.prog 321 0 = some (0, 1) := by kernel_rfl
@[go_sem] theorem t9_st : strT Tryz.prog 9 = true := by kernel_rfl
@[go_sem] theorem t9_el : elemT Tryz.prog 9 = none := by kernel_rfl
@[go_sem] theorem t9_us : Tryz.prog.underlying 9 = some .string := by kernel_rfl
@[go_sem] theorem t22_el : elemT Tryz.prog 22 = some 3 := by kernel_rfl
@[go_sem] theorem t22_st : strT Tryz.prog 22 = false := by kernel_rfl
@[go_sem] theorem t26_el : elemT Tryz.prog 26 = some 5 := by kernel_rfl
@[go_sem] theorem t26_st : strT Tryz.prog 26 = false := by kernel_rfl
@[go_sem] theorem t28_el : elemT Tryz.prog 28 = some 43 := by kernel_rfl
@[go_sem] theorem t28_st : strT Tryz.prog 28 = false := by kernel_rfl
@[go_sem] theorem t37_el : elemT Tryz.prog 37 = some 46 := by kernel_rfl
@[go_sem] theorem t37_st : strT Tryz.prog 37 = false := by kernel_rfl
@[go_sem] theorem t58_el : elemT Tryz.prog 58 = some 9 := by kernel_rfl
@[go_sem] theorem t58_st : strT Tryz.prog 58 = false := by kernel_rfl
@[go_sem] theorem t62_el : elemT Tryz.prog 62 = some 67 := by kernel_rfl
@[go_sem] theorem t62_st : strT Tryz.prog 62 = false := by kernel_rfl
@[go_sem] theorem t87_el : elemT Tryz.prog 87 = some 95 := by kernel_rfl
@[go_sem] theorem t87_st : strT Tryz.prog 87 = false := by kernel_rfl
@[go_sem] theorem t96_el : elemT Tryz.prog 96 = some 32 := by kernel_rfl
@[go_sem] theorem t96_st : strT Tryz.prog 96 = false := by kernel_rfl
@[go_sem] theorem t110_el : elemT Tryz.prog 110 = some 109 := by kernel_rfl
@[go_sem] theorem t110_st : strT Tryz.prog 110 = false := by kernel_rfl
@[go_sem] theorem t111_el : elemT Tryz.prog 111 = some 236 := by kernel_rfl
@[go_sem] theorem t111_st : strT Tryz.prog 111 = false := by kernel_rfl
@[go_sem] theorem t133_el : elemT Tryz.prog 133 = some 203 := by kernel_rfl
@[go_sem] theorem t133_st : strT Tryz.prog 133 = false := by kernel_rfl
@[go_sem] theorem t139_el : elemT Tryz.prog 139 = some 26 := by kernel_rfl
@[go_sem] theorem t139_st : strT Tryz.prog 139 = false := by kernel_rfl
@[go_sem] theorem t160_el : elemT Tryz.prog 160 = some 222 := by kernel_rfl
@[go_sem] theorem t160_st : strT Tryz.prog 160 = false := by kernel_rfl
@[go_sem] theorem t184_el : elemT Tryz.prog 184 = some 62 := by kernel_rfl
@[go_sem] theorem t184_st : strT Tryz.prog 184 = false := by kernel_rfl
@[go_sem] theorem t212_el : elemT Tryz.prog 212 = some 28 := by kernel_rfl
@[go_sem] theorem t212_st : strT Tryz.prog 212 = false := by kernel_rfl
@[go_sem] theorem t223_el : elemT Tryz.prog 223 = some 161 := by kernel_rfl
@[go_sem] theorem t223_st : strT Tryz.prog 223 = false := by kernel_rfl
@[go_sem] theorem t2_un : (Tryz.prog.underlying 2).isSome = true := by kernel_rfl
@[go_sem] theorem t2_ik : intK Tryz.prog 2 = some .i64 := by kernel_rfl
@[go_sem] theorem t3_ik : intK Tryz.prog 3 = some .i64 := by kernel_rfl
@[go_sem] theorem t5_ik : intK Tryz.prog 5 = some .u8 := by kernel_rfl
@[go_sem] theorem t9_ik : intK Tryz.prog 9 = none := by kernel_rfl
@[go_sem] theorem t26_ik : intK Tryz.prog 26 = none := by kernel_rfl
@[go_sem] theorem t100_un : (Tryz.prog.underlying 100).isSome = true := by kernel_rfl
@[go_sem] theorem t100_ik : intK Tryz.prog 100 = some .u64 := by kernel_rfl
@[go_sem] theorem t154_un : (Tryz.prog.underlying 154).isSome = true := by kernel_rfl
@[go_sem] theorem t154_ik : intK Tryz.prog 154 = some .u32 := by kernel_rfl
@[go_sem] theorem t156_ik : intK Tryz.prog 156 = some .u64 := by kernel_rfl
@[go_sem] theorem t206_ik : intK Tryz.prog 206 = some .u64 := by kernel_rfl
@[go_sem] theorem t2_bt : bytesT Tryz.prog 2 = false := by kernel_rfl
@[go_sem] theorem t3_bt : bytesT Tryz.prog 3 = false := by kernel_rfl
@[go_sem] theorem t5_bt : bytesT Tryz.prog 5 = false := by kernel_rfl
@[go_sem] theorem t9_bt : bytesT Tryz.prog 9 = false := by kernel_rfl
@[go_sem] theorem t26_bt : bytesT Tryz.prog 26 = true := by kernel_rfl
@[go_sem] theorem t100_bt : bytesT Tryz.prog 100 = false := by kernel_rfl
@[go_sem] theorem t154_bt : bytesT Tryz.prog 154 = false := by kernel_rfl
@[go_sem] theorem t156_bt : bytesT Tryz.prog 156 = false := by kernel_rfl
@[go_sem] theorem t206_bt : bytesT Tryz.prog 206 = false := by kernel_rfl
@[go_sem] theorem t9_co : conT Tryz.prog 9 = true := by kernel_rfl
@[go_sem] theorem t304_co : conT Tryz.prog 304 = true := by kernel_rfl
@[go_sem] theorem t307_co : conT Tryz.prog 307 = true := by kernel_rfl
@[go_sem] theorem t319_co : conT Tryz.prog 319 = true := by kernel_rfl
@[go_sem] theorem t166_k1 : fieldK Tryz.prog 166 1 = some (1, 1, false) := by kernel_rfl
@[go_sem] theorem t28_kd : kindT Tryz.prog 28 = 3 := by kernel_rfl
@[go_sem] theorem t43_fk : fieldsK Tryz.prog 43 = some [(0, 1), (1, 1), (2, 1)] := by kernel_rfl
@[go_sem] theorem t67_fk : fieldsK Tryz.prog 67 = some [(0, 3), (1, 1), (2, 1), (3, 1), (4, 1), (5, 1), (6, 1), (7, 1), (8, 1), (9, 1), (10, 1)] := by kernel_rfl
@[go_sem] theorem t107_fk : fieldsK Tryz.prog 107 = some [(0, 1), (1, 3), (2, 1), (3, 1), (4, 1)] := by kernel_rfl
@[go_sem] theorem t293_kd : kindT Tryz.prog 293 = 6 := by kernel_rfl
@[go_sem] theorem f2_en : entersB Tryz.prog 2 = true := by kernel_rfl
@[go_sem] theorem f2_rs : Tryz.f2.results.toList = [] := by kernel_rfl
@[go_sem] theorem f2_nt : Tryz.f2.ntmps = 1 := by kernel_rfl
@[go_sem] theorem f3_en : entersB Tryz.prog 3 = true := by kernel_rfl
@[go_sem] theorem f3_rs : Tryz.f3.results.toList = [.tmp 2] := by kernel_rfl
@[go_sem] theorem f3_nt : Tryz.f3.ntmps = 140 := by kernel_rfl
@[go_sem] theorem f4_en : entersB Tryz.prog 4 = true := by kernel_rfl
@[go_sem] theorem f4_rs : Tryz.f4.results.toList = [.tmp 2] := by kernel_rfl
@[go_sem] theorem f4_nt : Tryz.f4.ntmps = 134 := by kernel_rfl
@[go_sem] theorem f5_en : entersB Tryz.prog 5 = true := by kernel_rfl
@[go_sem] theorem f5_rs : Tryz.f5.results.toList = [.tmp 2] := by kernel_rfl
@[go_sem] theorem f5_nt : Tryz.f5.ntmps = 137 := by kernel_rfl
@[go_sem] theorem f6_en : entersB Tryz.prog 6 = true := by kernel_rfl
@[go_sem] theorem f6_rs : Tryz.f6.results.toList = [.tmp 2] := by kernel_rfl
@[go_sem] theorem f6_nt : Tryz.f6.ntmps = 31 := by kernel_rfl
@[go_sem] theorem f7_en : entersB Tryz.prog 7 = true := by kernel_rfl
@[go_sem] theorem f7_rs : Tryz.f7.results.toList = [.tmp 4] := by kernel_rfl
@[go_sem] theorem f7_nt : Tryz.f7.ntmps = 39 := by kernel_rfl
@[go_sem] theorem f8_en : entersB Tryz.prog 8 = true := by kernel_rfl
@[go_sem] theorem f8_rs : Tryz.f8.results.toList = [.tmp 6, .tmp 7] := by kernel_rfl
@[go_sem] theorem f8_nt : Tryz.f8.ntmps = 33 := by kernel_rfl
@[go_sem] theorem f9_en : entersB Tryz.prog 9 = true := by kernel_rfl
@[go_sem] theorem f9_rs : Tryz.f9.results.toList = [.tmp 6, .tmp 7] := by kernel_rfl
@[go_sem] theorem f9_nt : Tryz.f9.ntmps = 71 := by kernel_rfl
@[go_sem] theorem f10_en : entersB Tryz.prog 10 = true := by kernel_rfl
@[go_sem] theorem f10_rs : Tryz.f10.results.toList = [.tmp 2, .tmp 3] := by kernel_rfl
@[go_sem] theorem f10_nt : Tryz.f10.ntmps = 33 := by kernel_rfl
@[go_sem] theorem f11_en : entersB Tryz.prog 11 = true := by kernel_rfl
@[go_sem] theorem f11_rs : Tryz.f11.results.toList = [.tmp 2] := by kernel_rfl
@[go_sem] theorem f11_nt : Tryz.f11.ntmps = 15 := by kernel_rfl
@[go_sem] theorem f12_en : entersB Tryz.prog 12 = true := by kernel_rfl
@[go_sem] theorem f12_rs : Tryz.f12.results.toList = [.tmp 4] := by kernel_rfl
@[go_sem] theorem f12_nt : Tryz.f12.ntmps = 26 := by kernel_rfl
@[go_sem] theorem f13_en : entersB Tryz.prog 13 = true := by kernel_rfl
@[go_sem] theorem f13_rs : Tryz.f13.results.toList = [.tmp 4] := by kernel_rfl
@[go_sem] theorem f13_nt : Tryz.f13.ntmps = 18 := by kernel_rfl
@[go_sem] theorem f14_en : entersB Tryz.prog 14 = true := by kernel_rfl
@[go_sem] theorem f14_rs : Tryz.f14.results.toList = [.tmp 2] := by kernel_rfl
@[go_sem] theorem f14_nt : Tryz.f14.ntmps = 8 := by kernel_rfl
@[go_sem] theorem f15_en : entersB Tryz.prog 15 = true := by kernel_rfl
@[go_sem] theorem f15_rs : Tryz.f15.results.toList = [.tmp 4] := by kernel_rfl
@[go_sem] theorem f15_nt : Tryz.f15.ntmps = 9 := by kernel_rfl
@[go_sem] theorem f16_en : entersB Tryz.prog 16 = true := by kernel_rfl
@[go_sem] theorem f16_rs : Tryz.f16.results.toList = [.tmp 3] := by kernel_rfl
@[go_sem] theorem f16_nt : Tryz.f16.ntmps = 9 := by kernel_rfl
@[go_sem] theorem f17_en : entersB Tryz.prog 17 = true := by kernel_rfl
@[go_sem] theorem f17_rs : Tryz.f17.results.toList = [] := by kernel_rfl
@[go_sem] theorem f17_nt : Tryz.f17.ntmps = 14 := by kernel_rfl
@[go_sem] theorem f18_en : entersB Tryz.prog 18 = true := by kernel_rfl
@[go_sem] theorem f18_rs : Tryz.f18.results.toList = [.tmp 4] := by kernel_rfl
@[go_sem] theorem f18_nt : Tryz.f18.ntmps = 10 := by kernel_rfl
@[go_sem] theorem f19_en : entersB Tryz.prog 19 = true := by kernel_rfl
@[go_sem] theorem f19_rs : Tryz.f19.results.toList = [.tmp 0] := by kernel_rfl
@[go_sem] theorem f19_nt : Tryz.f19.ntmps = 72 := by kernel_rfl
@[go_sem] theorem f20_en : entersB Tryz.prog 20 = true := by kernel_rfl
@[go_sem] theorem f20_rs : Tryz.f20.results.toList = [.tmp 6] := by kernel_rfl
@[go_sem] theorem f20_nt : Tryz.f20.ntmps = 19 := by kernel_rfl
@[go_sem] theorem f22_en : entersB Tryz.prog 22 = true := by kernel_rfl
@[go_sem] theorem f22_rs : Tryz.f22.results.toList = [.tmp 4] := by kernel_rfl
@[go_sem] theorem f22_nt : Tryz.f22.ntmps = 10 := by kernel_rfl
@[go_sem] theorem f23_en : entersB Tryz.prog 23 = true := by kernel_rfl
@[go_sem] theorem f23_rs : Tryz.f23.results.toList = [.tmp 4] := by kernel_rfl
@[go_sem] theorem f23_nt : Tryz.f23.ntmps = 9 := by kernel_rfl
@[go_sem] theorem f24_en : entersB Tryz.prog 24 = true := by kernel_rfl
@[go_sem] theorem f24_rs : Tryz.f24.results.toList = [.tmp 2] := by kernel_rfl
@[go_sem] theorem f24_nt : Tryz.f24.ntmps = 5 := by kernel_rfl
@[go_sem] theorem f25_en : entersB Tryz.prog 25 = true := by kernel_rfl
@[go_sem] theorem f25_rs : Tryz.f25.results.toList = [.tmp 4, .tmp 5] := by kernel_rfl
@[go_sem] theorem f25_nt : Tryz.f25.ntmps = 166 := by kernel_rfl
@[go_sem] theorem f26_en : entersB Tryz.prog 26 = true := by kernel_rfl
@[go_sem] theorem f26_rs : Tryz.f26.results.toList = [.tmp 6, .tmp 7] := by kernel_rfl
@[go_sem] theorem f26_nt : Tryz.f26.ntmps = 29 := by kernel_rfl
@[go_sem] theorem f27_en : entersB Tryz.prog 27 = true := by kernel_rfl
@[go_sem] theorem f27_rs : Tryz.f27.results.toList = [.tmp 4] := by kernel_rfl
@[go_sem] theorem f27_nt : Tryz.f27.ntmps = 16 := by kernel_rfl
@[go_sem] theorem f28_en : entersB Tryz.prog 28 = true := by kernel_rfl
@[go_sem] theorem f28_rs : Tryz.f28.results.toList = [.tmp 4, .tmp 5] := by kernel_rfl
@[go_sem] theorem f28_nt : Tryz.f28.ntmps = 41 := by kernel_rfl
@[go_sem] theorem f29_en : entersB Tryz.prog 29 = true := by kernel_rfl
@[go_sem] theorem f29_rs : Tryz.f29.results.toList = [.tmp 4, .tmp 5] := by kernel_rfl
@[go_sem] theorem f29_nt : Tryz.f29.ntmps = 33 := by kernel_rfl
@[go_sem] theorem f30_en : entersB Tryz.prog 30 = true := by kernel_rfl
@[go_sem] theorem f30_rs : Tryz.f30.results.toList = [.tmp 6, .tmp 7] := by kernel_rfl
@[go_sem] theorem f30_nt : Tryz.f30.ntmps = 28 := by kernel_rfl
@[go_sem] theorem f31_en : entersB Tryz.prog 31 = true := by kernel_rfl
@[go_sem] theorem f31_rs : Tryz.f31.results.toList = [.tmp 4, .tmp 5] := by kernel_rfl
@[go_sem] theorem f31_nt : Tryz.f31.ntmps = 56 := by kernel_rfl
@[go_sem] theorem f32_en : entersB Tryz.prog 32 = true := by kernel_rfl
@[go_sem] theorem f32_rs : Tryz.f32.results.toList = [.tmp 8, .tmp 9] := by kernel_rfl
@[go_sem] theorem f32_nt : Tryz.f32.ntmps = 48 := by kernel_rfl
@[go_sem] theorem f33_en : entersB Tryz.prog 33 = true := by kernel_rfl
@[go_sem] theorem f33_rs : Tryz.f33.results.toList = [.tmp 4] := by kernel_rfl
@[go_sem] theorem f33_nt : Tryz.f33.ntmps = 26 := by kernel_rfl
@[go_sem] theorem f34_en : entersB Tryz.prog 34 = true := by kernel_rfl
@[go_sem] theorem f34_rs : Tryz.f34.results.toList = [.tmp 2] := by kernel_rfl
@[go_sem] theorem f34_nt : Tryz.f34.ntmps = 35 := by kernel_rfl
@[go_sem] theorem f35_en : entersB Tryz.prog 35 = true := by kernel_rfl
@[go_sem] theorem f35_rs : Tryz.f35.results.toList = [.tmp 4] := by kernel_rfl
@[go_sem] theorem f35_nt : Tryz.f35.ntmps = 9 := by kernel_rfl
@[go_sem] theorem f36_en : entersB Tryz.prog 36 = true := by kernel_rfl
@[go_sem] theorem f36_rs : Tryz.f36.results.toList = [.tmp 4] := by kernel_rfl
@[go_sem] theorem f36_nt : Tryz.f36.ntmps = 9 := by kernel_rfl
@[go_sem] theorem f37_en : entersB Tryz.prog 37 = true := by kernel_rfl
@[go_sem] theorem f37_rs : Tryz.f37.results.toList = [.tmp 2] := by kernel_rfl
@[go_sem] theorem f37_nt : Tryz.f37.ntmps = 27 := by kernel_rfl
@[go_sem] theorem f38_en : entersB Tryz.prog 38 = true := by kernel_rfl
@[go_sem] theorem f38_rs : Tryz.f38.results.toList = [.tmp 6, .tmp 7] := by kernel_rfl
@[go_sem] theorem f38_nt : Tryz.f38.ntmps = 69 := by kernel_rfl
@[go_sem] theorem f39_en : entersB Tryz.prog 39 = true := by kernel_rfl
@[go_sem] theorem f39_rs : Tryz.f39.results.toList = [.tmp 4] := by kernel_rfl
@[go_sem] theorem f39_nt : Tryz.f39.ntmps = 12 := by kernel_rfl
@[go_sem] theorem f40_en : entersB Tryz.prog 40 = true := by kernel_rfl
@[go_sem] theorem f40_rs : Tryz.f40.results.toList = [.tmp 4] := by kernel_rfl
@[go_sem] theorem f40_nt : Tryz.f40.ntmps = 12 := by kernel_rfl
@[go_sem] theorem f41_en : entersB Tryz.prog 41 = true := by kernel_rfl
@[go_sem] theorem f41_rs : Tryz.f41.results.toList = [.tmp 4, .tmp 5] := by kernel_rfl
@[go_sem] theorem f41_nt : Tryz.f41.ntmps = 22 := by kernel_rfl
@[go_sem] theorem f42_en : entersB Tryz.prog 42 = true := by kernel_rfl
@[go_sem] theorem f42_rs : Tryz.f42.results.toList = [.tmp 2] := by kernel_rfl
@[go_sem] theorem f42_nt : Tryz.f42.ntmps = 14 := by kernel_rfl
@[go_sem] theorem f43_en : entersB Tryz.prog 43 = true := by kernel_rfl
@[go_sem] theorem f43_rs : Tryz.f43.results.toList = [.tmp 6] := by kernel_rfl
@[go_sem] theorem f43_nt : Tryz.f43.ntmps = 60 := by kernel_rfl
@[go_sem] theorem f44_en : entersB Tryz.prog 44 = true := by kernel_rfl
@[go_sem] theorem f44_rs : Tryz.f44.results.toList = [.tmp 2] := by kernel_rfl
@[go_sem] theorem f44_nt : Tryz.f44.ntmps = 36 := by kernel_rfl
@[go_sem] theorem f45_en : entersB Tryz.prog 45 = true := by kernel_rfl
@[go_sem] theorem f45_rs : Tryz.f45.results.toList = [.tmp 6] := by kernel_rfl
@[go_sem] theorem f45_nt : Tryz.f45.ntmps = 19 := by kernel_rfl
@[go_sem] theorem f46_en : entersB Tryz.prog 46 = true := by kernel_rfl
@[go_sem] theorem f46_rs : Tryz.f46.results.toList = [.tmp 2, .tmp 3] := by kernel_rfl
@[go_sem] theorem f46_nt : Tryz.f46.ntmps = 24 := by kernel_rfl
@[go_sem] theorem f47_en : entersB Tryz.prog 47 = true := by kernel_rfl
@[go_sem] theorem f47_rs : Tryz.f47.results.toList = [.tmp 4] := by kernel_rfl
@[go_sem] theorem f47_nt : Tryz.f47.ntmps = 19 := by kernel_rfl
@[go_sem] theorem f48_en : entersB Tryz.prog 48 = true := by kernel_rfl
@[go_sem] theorem f48_rs : Tryz.f48.results.toList = [] := by kernel_rfl
@[go_sem] theorem f48_nt : Tryz.f48.ntmps = 148 := by kernel_rfl
@[go_sem] theorem f49_en : entersB Tryz.prog 49 = true := by kernel_rfl
@[go_sem] theorem f49_rs : Tryz.f49.results.toList = [.tmp 2] := by kernel_rfl
@[go_sem] theorem f49_nt : Tryz.f49.ntmps = 8 := by kernel_rfl
@[go_sem] theorem f50_en : entersB Tryz.prog 50 = true := by kernel_rfl
@[go_sem] theorem f50_rs : Tryz.f50.results.toList = [.tmp 4, .tmp 5] := by kernel_rfl
@[go_sem] theorem f50_nt : Tryz.f50.ntmps = 29 := by kernel_rfl
@[go_sem] theorem f51_en : entersB Tryz.prog 51 = true := by kernel_rfl
@[go_sem] theorem f51_rs : Tryz.f51.results.toList = [.tmp 2, .tmp 3] := by kernel_rfl
@[go_sem] theorem f51_nt : Tryz.f51.ntmps = 8 := by kernel_rfl
@[go_sem] theorem f52_en : entersB Tryz.prog 52 = true := by kernel_rfl
@[go_sem] theorem f52_rs : Tryz.f52.results.toList = [.cell 6 43, .tmp 7] := by kernel_rfl
@[go_sem] theorem f52_nt : Tryz.f52.ntmps = 39 := by kernel_rfl
@[go_sem] theorem f53_en : entersB Tryz.prog 53 = true := by kernel_rfl
@[go_sem] theorem f53_rs : Tryz.f53.results.toList = [.tmp 4, .tmp 5] := by kernel_rfl
@[go_sem] theorem f53_nt : Tryz.f53.ntmps = 29 := by kernel_rfl
@[go_sem] theorem f54_en : entersB Tryz.prog 54 = true := by kernel_rfl
@[go_sem] theorem f54_rs : Tryz.f54.results.toList = [.tmp 4, .tmp 5] := by kernel_rfl
@[go_sem] theorem f54_nt : Tryz.f54.ntmps = 18 := by kernel_rfl
@[go_sem] theorem f55_en : entersB Tryz.prog 55 = true := by kernel_rfl
@[go_sem] theorem f55_rs : Tryz.f55.results.toList = [.tmp 4] := by kernel_rfl
@[go_sem] theorem f55_nt : Tryz.f55.ntmps = 64 := by kernel_rfl
@[go_sem] theorem f56_en : entersB Tryz.prog 56 = true := by kernel_rfl
@[go_sem] theorem f56_rs : Tryz.f56.results.toList = [.tmp 2] := by kernel_rfl
@[go_sem] theorem f56_nt : Tryz.f56.ntmps = 26 := by kernel_rfl
@[go_sem] theorem f57_en : entersB Tryz.prog 57 = true := by kernel_rfl
@[go_sem] theorem f57_rs : Tryz.f57.results.toList = [.tmp 4] := by kernel_rfl
@[go_sem] theorem f57_nt : Tryz.f57.ntmps = 19 := by kernel_rfl
@[go_sem] theorem f58_en : entersB Tryz.prog 58 = true := by kernel_rfl
@[go_sem] theorem f58_rs : Tryz.f58.results.toList = [.tmp 2] := by kernel_rfl
@[go_sem] theorem f58_nt : Tryz.f58.ntmps = 54 := by kernel_rfl
@[go_sem] theorem f59_en : entersB Tryz.prog 59 = true := by kernel_rfl
@[go_sem] theorem f59_rs : Tryz.f59.results.toList = [.tmp 2] := by kernel_rfl
@[go_sem] theorem f59_nt : Tryz.f59.ntmps = 28 := by kernel_rfl
@[go_sem] theorem f60_en : entersB Tryz.prog 60 = true := by kernel_rfl
@[go_sem] theorem f60_rs : Tryz.f60.results.toList = [.tmp 6] := by kernel_rfl
@[go_sem] theorem f60_nt : Tryz.f60.ntmps = 70 := by kernel_rfl
@[go_sem] theorem f61_en : entersB Tryz.prog 61 = true := by kernel_rfl
@[go_sem] theorem f61_rs : Tryz.f61.results.toList = [.tmp 4] := by kernel_rfl
@[go_sem] theorem f61_nt : Tryz.f61.ntmps = 113 := by kernel_rfl
@[go_sem] theorem f62_en : entersB Tryz.prog 62 = true := by kernel_rfl
@[go_sem] theorem f62_rs : Tryz.f62.results.toList = [.tmp 2] := by kernel_rfl
@[go_sem] theorem f62_nt : Tryz.f62.ntmps = 49 := by kernel_rfl
@[go_sem] theorem f63_en : entersB Tryz.prog 63 = true := by kernel_rfl
@[go_sem] theorem f63_rs : Tryz.f63.results.toList = [.tmp 2] := by kernel_rfl
@[go_sem] theorem f63_nt : Tryz.f63.ntmps = 15 := by kernel_rfl
@[go_sem] theorem f64_en : entersB Tryz.prog 64 = true := by kernel_rfl
@[go_sem] theorem f64_rs : Tryz.f64.results.toList = [.tmp 2] := by kernel_rfl
@[go_sem] theorem f64_nt : Tryz.f64.ntmps = 36 := by kernel_rfl
@[go_sem] theorem f65_en : entersB Tryz.prog 65 = true := by kernel_rfl
@[go_sem] theorem f65_rs : Tryz.f65.results.toList = [.tmp 2] := by kernel_rfl
@[go_sem] theorem f65_nt : Tryz.f65.ntmps = 36 := by kernel_rfl
@[go_sem] theorem f66_en : entersB Tryz.prog 66 = true := by kernel_rfl
@[go_sem] theorem f66_rs : Tryz.f66.results.toList = [] := by kernel_rfl
@[go_sem] theorem f66_nt : Tryz.f66.ntmps = 9 := by kernel_rfl
@[go_sem] theorem f67_en : entersB Tryz.prog 67 = true := by kernel_rfl
@[go_sem] theorem f67_rs : Tryz.f67.results.toList = [.tmp 4] := by kernel_rfl
@[go_sem] theorem f67_nt : Tryz.f67.ntmps = 22 := by kernel_rfl
@[go_sem] theorem f68_en : entersB Tryz.prog 68 = true := by kernel_rfl
@[go_sem] theorem f68_rs : Tryz.f68.results.toList = [.tmp 2] := by kernel_rfl
@[go_sem] theorem f68_nt : Tryz.f68.ntmps = 61 := by kernel_rfl
@[go_sem] theorem f69_en : entersB Tryz.prog 69 = true := by kernel_rfl
@[go_sem] theorem f69_rs : Tryz.f69.results.toList = [.tmp 2] := by kernel_rfl
@[go_sem] theorem f69_nt : Tryz.f69.ntmps = 25 := by kernel_rfl
@[go_sem] theorem f70_en : entersB Tryz.prog 70 = true := by kernel_rfl
@[go_sem] theorem f70_rs : Tryz.f70.results.toList = [.tmp 4] := by kernel_rfl
@[go_sem] theorem f70_nt : Tryz.f70.ntmps = 11 := by kernel_rfl
@[go_sem] theorem f71_en : entersB Tryz.prog 71 = true := by kernel_rfl
@[go_sem] theorem f71_rs : Tryz.f71.results.toList = [.tmp 2] := by kernel_rfl
@[go_sem] theorem f71_nt : Tryz.f71.ntmps = 6 := by kernel_rfl
@[go_sem] theorem f72_en : entersB Tryz.prog 72 = true := by kernel_rfl
@[go_sem] theorem f72_rs : Tryz.f72.results.toList = [.tmp 2] := by kernel_rfl
@[go_sem] theorem f72_nt : Tryz.f72.ntmps = 22 := by kernel_rfl
@[go_sem] theorem f73_en : entersB Tryz.prog 73 = true := by kernel_rfl
@[go_sem] theorem f73_rs : Tryz.f73.results.toList = [.tmp 6] := by kernel_rfl
@[go_sem] theorem f73_nt : Tryz.f73.ntmps = 56 := by kernel_rfl
@[go_sem] theorem f74_en : entersB Tryz.prog 74 = true := by kernel_rfl
@[go_sem] theorem f74_rs : Tryz.f74.results.toList = [.tmp 4] := by kernel_rfl
@[go_sem] theorem f74_nt : Tryz.f74.ntmps = 66 := by kernel_rfl
@[go_sem] theorem f75_en : entersB Tryz.prog 75 = true := by kernel_rfl
@[go_sem] theorem f75_rs : Tryz.f75.results.toList = [.tmp 4] := by kernel_rfl
@[go_sem] theorem f75_nt : Tryz.f75.ntmps = 73 := by kernel_rfl
@[go_sem] theorem f76_en : entersB Tryz.prog 76 = true := by kernel_rfl
@[go_sem] theorem f76_rs : Tryz.f76.results.toList = [.tmp 2] := by kernel_rfl
@[go_sem] theorem f76_nt : Tryz.f76.ntmps = 25 := by kernel_rfl
@[go_sem] theorem f77_en : entersB Tryz.prog 77 = true := by kernel_rfl
@[go_sem] theorem f77_rs : Tryz.f77.results.toList = [.tmp 4] := by kernel_rfl
@[go_sem] theorem f77_nt : Tryz.f77.ntmps = 19 := by kernel_rfl
@[go_sem] theorem f79_en : entersB Tryz.prog 79 = true := by kernel_rfl
@[go_sem] theorem f79_rs : Tryz.f79.results.toList = [.tmp 2] := by kernel_rfl
@[go_sem] theorem f79_nt : Tryz.f79.ntmps = 15 := by kernel_rfl
@[go_sem] theorem f80_en : entersB Tryz.prog 80 = true := by kernel_rfl
@[go_sem] theorem f80_rs : Tryz.f80.results.toList = [.tmp 2] := by kernel_rfl
@[go_sem] theorem f80_nt : Tryz.f80.ntmps = 35 := by kernel_rfl
@[go_sem] theorem f83_en : entersB Tryz.prog 83 = true := by kernel_rfl
@[go_sem] theorem f83_rs : Tryz.f83.results.toList = [.tmp 6] := by kernel_rfl
@[go_sem] theorem f83_nt : Tryz.f83.ntmps = 15 := by kernel_rfl
@[go_sem] theorem f84_en : entersB Tryz.prog 84 = true := by kernel_rfl
@[go_sem] theorem f84_rs : Tryz.f84.results.toList = [.tmp 4] := by kernel_rfl
@[go_sem] theorem f84_nt : Tryz.f84.ntmps = 15 := by kernel_rfl
@[go_sem] theorem f86_en : entersB Tryz.prog 86 = true := by kernel_rfl
@[go_sem] theorem f86_rs : Tryz.f86.results.toList = [.tmp 4] := by kernel_rfl
@[go_sem] theorem f86_nt : Tryz.f86.ntmps = 27 := by kernel_rfl
@[go_sem] theorem f90_en : entersB Tryz.prog 90 = true := by kernel_rfl
@[go_sem] theorem f90_rs : Tryz.f90.results.toList = [] := by kernel_rfl
@[go_sem] theorem f90_nt : Tryz.f90.ntmps = 53 := by kernel_rfl
@[go_sem] theorem f95_en : entersB Tryz.prog 95 = true := by kernel_rfl
@[go_sem] theorem f95_rs : Tryz.f95.results.toList = [.tmp 8] := by kernel_rfl
@[go_sem] theorem f95_nt : Tryz.f95.ntmps = 141 := by kernel_rfl
@[go_sem] theorem f96_en : entersB Tryz.prog 96 = true := by kernel_rfl
@[go_sem] theorem f96_rs : Tryz.f96.results.toList = [.tmp 10] := by kernel_rfl
@[go_sem] theorem f96_nt : Tryz.f96.ntmps = 90 := by kernel_rfl
@[go_sem] theorem f97_en : entersB Tryz.prog 97 = true := by kernel_rfl
@[go_sem] theorem f97_rs : Tryz.f97.results.toList = [.tmp 10, .tmp 11] := by kernel_rfl
@[go_sem] theorem f97_nt : Tryz.f97.ntmps = 178 := by kernel_rfl
@[go_sem] theorem f98_en : entersB Tryz.prog 98 = true := by kernel_rfl
@[go_sem] theorem f98_rs : Tryz.f98.results.toList = [.tmp 2] := by kernel_rfl
@[go_sem] theorem f98_nt : Tryz.f98.ntmps = 19 := by kernel_rfl
@[go_sem] theorem f99_en : entersB Tryz.prog 99 = true := by kernel_rfl
@[go_sem] theorem f99_rs : Tryz.f99.results.toList = [.tmp 2] := by kernel_rfl
@[go_sem] theorem f99_nt : Tryz.f99.ntmps = 25 := by kernel_rfl
@[go_sem] theorem f100_en : entersB Tryz.prog 100 = true := by kernel_rfl
@[go_sem] theorem f100_rs : Tryz.f100.results.toList = [.tmp 2] := by kernel_rfl
@[go_sem] theorem f100_nt : Tryz.f100.ntmps = 36 := by kernel_rfl
@[go_sem] theorem f101_en : entersB Tryz.prog 101 = true := by kernel_rfl
@[go_sem] theorem f101_rs : Tryz.f101.results.toList = [.tmp 4] := by kernel_rfl
@[go_sem] theorem f101_nt : Tryz.f101.ntmps = 22 := by kernel_rfl
@[go_sem] theorem f102_en : entersB Tryz.prog 102 = true := by kernel_rfl
@[go_sem] theorem f102_rs : Tryz.f102.results.toList = [.tmp 4] := by kernel_rfl
@[go_sem] theorem f102_nt : Tryz.f102.ntmps = 66 := by kernel_rfl
@[go_sem] theorem f103_en : entersB Tryz.prog 103 = true := by kernel_rfl
@[go_sem] theorem f103_rs : Tryz.f103.results.toList = [.tmp 4] := by kernel_rfl
@[go_sem] theorem f103_nt : Tryz.f103.ntmps = 10 := by kernel_rfl
@[go_sem] theorem f104_en : entersB Tryz.prog 104 = true := by kernel_rfl
@[go_sem] theorem f104_rs : Tryz.f104.results.toList = [.tmp 2, .tmp 3, .tmp 4] := by kernel_rfl
@[go_sem] theorem f104_nt : Tryz.f104.ntmps = 56 := by kernel_rfl
@[go_sem] theorem f105_en : entersB Tryz.prog 105 = true := by kernel_rfl
@[go_sem] theorem f105_rs : Tryz.f105.results.toList = [.tmp 2] := by kernel_rfl
@[go_sem] theorem f105_nt : Tryz.f105.ntmps = 42 := by kernel_rfl
@[go_sem] theorem f106_en : entersB Tryz.prog 106 = true := by kernel_rfl
@[go_sem] theorem f106_rs : Tryz.f106.results.toList = [.cell 6 166] := by kernel_rfl
@[go_sem] theorem f106_nt : Tryz.f106.ntmps = 107 := by kernel_rfl
@[go_sem] theorem f107_en : entersB Tryz.prog 107 = true := by kernel_rfl
@[go_sem] theorem f107_rs : Tryz.f107.results.toList = [.tmp 2] := by kernel_rfl
@[go_sem] theorem f107_nt : Tryz.f107.ntmps = 4 := by kernel_rfl
@[go_sem] theorem f108_en : entersB Tryz.prog 108 = true := by kernel_rfl
@[go_sem] theorem f108_rs : Tryz.f108.results.toList = [.cell 4 43] := by kernel_rfl
@[go_sem] theorem f108_nt : Tryz.f108.ntmps = 16 := by kernel_rfl
@[go_sem] theorem f109_en : entersB Tryz.prog 109 = true := by kernel_rfl
@[go_sem] theorem f109_rs : Tryz.f109.results.toList = [.tmp 4] := by kernel_rfl
@[go_sem] theorem f109_nt : Tryz.f109.ntmps = 16 := by kernel_rfl
@[go_sem] theorem f110_en : entersB Tryz.prog 110 = true := by kernel_rfl
@[go_sem] theorem f110_rs : Tryz.f110.results.toList = [.tmp 4, .tmp 5] := by kernel_rfl
@[go_sem] theorem f110_nt : Tryz.f110.ntmps = 33 := by kernel_rfl
@[go_sem] theorem f111_en : entersB Tryz.prog 111 = true := by kernel_rfl
@[go_sem] theorem f111_rs : Tryz.f111.results.toList = [.tmp 2] := by kernel_rfl
@[go_sem] theorem f111_nt : Tryz.f111.ntmps = 11 := by kernel_rfl
@[go_sem] theorem f112_en : entersB Tryz.prog 112 = true := by kernel_rfl
@[go_sem] theorem f112_rs : Tryz.f112.results.toList = [.tmp 4] := by kernel_rfl
@[go_sem] theorem f112_nt : Tryz.f112.ntmps = 39 := by kernel_rfl
@[go_sem] theorem f113_en : entersB Tryz.prog 113 = true := by kernel_rfl
@[go_sem] theorem f113_rs : Tryz.f113.results.toList = [.tmp 4] := by kernel_rfl
@[go_sem] theorem f113_nt : Tryz.f113.ntmps = 16 := by kernel_rfl
@[go_sem] theorem f114_en : entersB Tryz.prog 114 = true := by kernel_rfl
@[go_sem] theorem f114_rs : Tryz.f114.results.toList = [] := by kernel_rfl
@[go_sem] theorem f114_nt : Tryz.f114.ntmps = 11 := by kernel_rfl
@[go_sem] theorem f115_en : entersB Tryz.prog 115 = true := by kernel_rfl
@[go_sem] theorem f115_rs : Tryz.f115.results.toList = [.tmp 2] := by kernel_rfl
@[go_sem] theorem f115_nt : Tryz.f115.ntmps = 61 := by kernel_rfl
@[go_sem] theorem f116_en : entersB Tryz.prog 116 = true := by kernel_rfl
@[go_sem] theorem f116_rs : Tryz.f116.results.toList = [.tmp 2] := by kernel_rfl
@[go_sem] theorem f116_nt : Tryz.f116.ntmps = 21 := by kernel_rfl
@[go_sem] theorem f117_en : entersB Tryz.prog 117 = true := by kernel_rfl
@[go_sem] theorem f117_rs : Tryz.f117.results.toList = [.tmp 6] := by kernel_rfl
@[go_sem] theorem f117_nt : Tryz.f117.ntmps = 22 := by kernel_rfl
@[go_sem] theorem f118_en : entersB Tryz.prog 118 = true := by kernel_rfl
@[go_sem] theorem f118_rs : Tryz.f118.results.toList = [.cell 2 43] := by kernel_rfl
@[go_sem] theorem f118_nt : Tryz.f118.ntmps = 13 := by kernel_rfl
@[go_sem] theorem f119_en : entersB Tryz.prog 119 = true := by kernel_rfl
@[go_sem] theorem f119_rs : Tryz.f119.results.toList = [.tmp 4] := by kernel_rfl
@[go_sem] theorem f119_nt : Tryz.f119.ntmps = 34 := by kernel_rfl
@[go_sem] theorem f120_en : entersB Tryz.prog 120 = true := by kernel_rfl
@[go_sem] theorem f120_rs : Tryz.f120.results.toList = [.tmp 2] := by kernel_rfl
@[go_sem] theorem f120_nt : Tryz.f120.ntmps = 74 := by kernel_rfl
@[go_sem] theorem f121_en : entersB Tryz.prog 121 = true := by kernel_rfl
@[go_sem] theorem f121_rs : Tryz.f121.results.toList = [.tmp 4] := by kernel_rfl
@[go_sem] theorem f121_nt : Tryz.f121.ntmps = 9 := by kernel_rfl
@[go_sem] theorem f122_en : entersB Tryz.prog 122 = true := by kernel_rfl
@[go_sem] theorem f122_rs : Tryz.f122.results.toList = [.tmp 3] := by kernel_rfl
@[go_sem] theorem f122_nt : Tryz.f122.ntmps = 7 := by kernel_rfl
@[go_sem] theorem f123_en : entersB Tryz.prog 123 = true := by kernel_rfl
@[go_sem] theorem f123_rs : Tryz.f123.results.toList = [.tmp 4] := by kernel_rfl
@[go_sem] theorem f123_nt : Tryz.f123.ntmps = 17 := by kernel_rfl
@[go_sem] theorem f124_en : entersB Tryz.prog 124 = true := by kernel_rfl
@[go_sem] theorem f124_rs : Tryz.f124.results.toList = [.tmp 2] := by kernel_rfl
@[go_sem] theorem f124_nt : Tryz.f124.ntmps = 40 := by kernel_rfl
@[go_sem] theorem f125_en : entersB Tryz.prog 125 = true := by kernel_rfl
@[go_sem] theorem f125_rs : Tryz.f125.results.toList = [.tmp 4] := by kernel_rfl
@[go_sem] theorem f125_nt : Tryz.f125.ntmps = 27 := by kernel_rfl
@[go_sem] theorem f126_en : entersB Tryz.prog 126 = true := by kernel_rfl
@[go_sem] theorem f126_rs : Tryz.f126.results.toList = [] := by kernel_rfl
@[go_sem] theorem f126_nt : Tryz.f126.ntmps = 63 := by kernel_rfl
@[go_sem] theorem f127_en : entersB Tryz.prog 127 = true := by kernel_rfl
@[go_sem] theorem f127_rs : Tryz.f127.results.toList = [.tmp 2] := by kernel_rfl
@[go_sem] theorem f127_nt : Tryz.f127.ntmps = 18 := by kernel_rfl
@[go_sem] theorem f128_en : entersB Tryz.prog 128 = true := by kernel_rfl
@[go_sem] theorem f128_rs : Tryz.f128.results.toList = [.tmp 4] := by kernel_rfl
@[go_sem] theorem f128_nt : Tryz.f128.ntmps = 20 := by kernel_rfl
@[go_sem] theorem f129_en : entersB Tryz.prog 129 = true := by kernel_rfl
@[go_sem] theorem f129_rs : Tryz.f129.results.toList = [.tmp 4] := by kernel_rfl
@[go_sem] theorem f129_nt : Tryz.f129.ntmps = 8 := by kernel_rfl
@[go_sem] theorem f130_en : entersB Tryz.prog 130 = true := by kernel_rfl
@[go_sem] theorem f130_rs : Tryz.f130.results.toList = [.tmp 2] := by kernel_rfl
@[go_sem] theorem f130_nt : Tryz.f130.ntmps = 9 := by kernel_rfl
@[go_sem] theorem f131_en : entersB Tryz.prog 131 = true := by kernel_rfl
@[go_sem] theorem f131_rs : Tryz.f131.results.toList = [.tmp 2] := by kernel_rfl
@[go_sem] theorem f131_nt : Tryz.f131.ntmps = 4 := by kernel_rfl
@[go_sem] theorem f132_en : entersB Tryz.prog 132 = true := by kernel_rfl
@[go_sem] theorem f132_rs : Tryz.f132.results.toList = [] := by kernel_rfl
@[go_sem] theorem f132_nt : Tryz.f132.ntmps = 33 := by kernel_rfl
@[go_sem] theorem f133_en : entersB Tryz.prog 133 = true := by kernel_rfl
@[go_sem] theorem f133_rs : Tryz.f133.results.toList = [.tmp 2] := by kernel_rfl
@[go_sem] theorem f133_nt : Tryz.f133.ntmps = 11 := by kernel_rfl
@[go_sem] theorem f134_en : entersB Tryz.prog 134 = true := by kernel_rfl
@[go_sem] theorem f134_rs : Tryz.f134.results.toList = [.tmp 2] := by kernel_rfl
@[go_sem] theorem f134_nt : Tryz.f134.ntmps = 4 := by kernel_rfl
@[go_sem] theorem f137_en : entersB Tryz.prog 137 = true := by kernel_rfl
@[go_sem] theorem f137_rs : Tryz.f137.results.toList = [.tmp 6] := by kernel_rfl
@[go_sem] theorem f137_nt : Tryz.f137.ntmps = 15 := by kernel_rfl
@[go_sem] theorem f138_en : entersB Tryz.prog 138 = true := by kernel_rfl
@[go_sem] theorem f138_rs : Tryz.f138.results.toList = [.tmp 4] := by kernel_rfl
@[go_sem] theorem f138_nt : Tryz.f138.ntmps = 18 := by kernel_rfl
@[go_sem] theorem f139_en : entersB Tryz.prog 139 = true := by kernel_rfl
@[go_sem] theorem f139_rs : Tryz.f139.results.toList = [.tmp 2] := by kernel_rfl
@[go_sem] theorem f139_nt : Tryz.f139.ntmps = 27 := by kernel_rfl
@[go_sem] theorem f144_en : entersB Tryz.prog 144 = true := by kernel_rfl
@[go_sem] theorem f144_rs : Tryz.f144.results.toList = [.tmp 2] := by kernel_rfl
@[go_sem] theorem f144_nt : Tryz.f144.ntmps = 7 := by kernel_rfl
@[go_sem] theorem f145_en : entersB Tryz.prog 145 = true := by kernel_rfl
@[go_sem] theorem f145_rs : Tryz.f145.results.toList = [.tmp 2] := by kernel_rfl
@[go_sem] theorem f145_nt : Tryz.f145.ntmps = 33 := by kernel_rfl
@[go_sem] theorem f147_en : entersB Tryz.prog 147 = true := by kernel_rfl
@[go_sem] theorem f147_rs : Tryz.f147.results.toList = [.tmp 12] := by kernel_rfl
@[go_sem] theorem f147_nt : Tryz.f147.ntmps = 41 := by kernel_rfl
@[go_sem] theorem f148_en : entersB Tryz.prog 148 = true := by kernel_rfl
@[go_sem] theorem f148_rs : Tryz.f148.results.toList = [.tmp 4] := by kernel_rfl
@[go_sem] theorem f148_nt : Tryz.f148.ntmps = 27 := by kernel_rfl
@[go_sem] theorem f154_en : entersB Tryz.prog 154 = true := by kernel_rfl
@[go_sem] theorem f154_rs : Tryz.f154.results.toList = [.cell 6 166] := by kernel_rfl
@[go_sem] theorem f154_nt : Tryz.f154.ntmps = 20 := by kernel_rfl
@[go_sem] theorem f156_en : entersB Tryz.prog 156 = true := by kernel_rfl
@[go_sem] theorem f156_rs : Tryz.f156.results.toList = [.cell 6 166] := by kernel_rfl
@[go_sem] theorem f156_nt : Tryz.f156.ntmps = 88 := by kernel_rfl
@[go_sem] theorem f161_en : entersB Tryz.prog 161 = true := by kernel_rfl
@[go_sem] theorem f161_rs : Tryz.f161.results.toList = [.tmp 2] := by kernel_rfl
@[go_sem] theorem f161_nt : Tryz.f161.ntmps = 40 := by kernel_rfl
@[go_sem] theorem f162_en : entersB Tryz.prog 162 = true := by kernel_rfl
@[go_sem] theorem f162_rs : Tryz.f162.results.toList = [.tmp 4] := by kernel_rfl
@[go_sem] theorem f162_nt : Tryz.f162.ntmps = 35 := by kernel_rfl
@[go_sem] theorem f163_en : entersB Tryz.prog 163 = true := by kernel_rfl
@[go_sem] theorem f163_rs : Tryz.f163.results.toList = [] := by kernel_rfl
@[go_sem] theorem f163_nt : Tryz.f163.ntmps = 134 := by kernel_rfl
@[go_sem] theorem f164_en : entersB Tryz.prog 164 = true := by kernel_rfl
@[go_sem] theorem f164_rs : Tryz.f164.results.toList = [.tmp 2] := by kernel_rfl
@[go_sem] theorem f164_nt : Tryz.f164.ntmps = 9 := by kernel_rfl
@[go_sem] theorem f165_en : entersB Tryz.prog 165 = true := by kernel_rfl
@[go_sem] theorem f165_rs : Tryz.f165.results.toList = [.tmp 2] := by kernel_rfl
@[go_sem] theorem f165_nt : Tryz.f165.ntmps = 5 := by kernel_rfl
@[go_sem] theorem f166_en : entersB Tryz.prog 166 = true := by kernel_rfl
@[go_sem] theorem f166_rs : Tryz.f166.results.toList = [.tmp 2] := by kernel_rfl
@[go_sem] theorem f166_nt : Tryz.f166.ntmps = 18 := by kernel_rfl
@[go_sem] theorem f167_en : entersB Tryz.prog 167 = true := by kernel_rfl
@[go_sem] theorem f167_rs : Tryz.f167.results.toList = [.tmp 4] := by kernel_rfl
@[go_sem] theorem f167_nt : Tryz.f167.ntmps = 19 := by kernel_rfl
@[go_sem] theorem f168_en : entersB Tryz.prog 168 = true := by kernel_rfl
@[go_sem] theorem f168_rs : Tryz.f168.results.toList = [.tmp 2] := by kernel_rfl
@[go_sem] theorem f168_nt : Tryz.f168.ntmps = 42 := by kernel_rfl
@[go_sem] theorem f169_en : entersB Tryz.prog 169 = true := by kernel_rfl
@[go_sem] theorem f169_rs : Tryz.f169.results.toList = [.cell 2 67] := by kernel_rfl
@[go_sem] theorem f169_nt : Tryz.f169.ntmps = 18 := by kernel_rfl
@[go_sem] theorem f170_en : entersB Tryz.prog 170 = true := by kernel_rfl
@[go_sem] theorem f170_rs : Tryz.f170.results.toList = [] := by kernel_rfl
@[go_sem] theorem f170_nt : Tryz.f170.ntmps = 53 := by kernel_rfl
@[go_sem] theorem f172_en : entersB Tryz.prog 172 = true := by kernel_rfl
@[go_sem] theorem f172_rs : Tryz.f172.results.toList = [.tmp 2] := by kernel_rfl
@[go_sem] theorem f172_nt : Tryz.f172.ntmps = 6 := by kernel_rfl
@[go_sem] theorem f173_en : entersB Tryz.prog 173 = true := by kernel_rfl
@[go_sem] theorem f173_rs : Tryz.f173.results.toList = [.tmp 4] := by kernel_rfl
@[go_sem] theorem f173_nt : Tryz.f173.ntmps = 8 := by kernel_rfl
@[go_sem] theorem f174_en : entersB Tryz.prog 174 = true := by kernel_rfl
@[go_sem] theorem f174_rs : Tryz.f174.results.toList = [.tmp 2] := by kernel_rfl
@[go_sem] theorem f174_nt : Tryz.f174.ntmps = 5 := by kernel_rfl
@[go_sem] theorem f175_en : entersB Tryz.prog 175 = true := by kernel_rfl
@[go_sem] theorem f175_rs : Tryz.f175.results.toList = [] := by kernel_rfl
@[go_sem] theorem f175_nt : Tryz.f175.ntmps = 11 := by kernel_rfl
@[go_sem] theorem f176_en : entersB Tryz.prog 176 = true := by kernel_rfl
@[go_sem] theorem f176_rs : Tryz.f176.results.toList = [] := by kernel_rfl
@[go_sem] theorem f176_nt : Tryz.f176.ntmps = 14 := by kernel_rfl
@[go_sem] theorem f177_en : entersB Tryz.prog 177 = true := by kernel_rfl
@[go_sem] theorem f177_rs : Tryz.f177.results.toList = [] := by kernel_rfl
@[go_sem] theorem f177_nt : Tryz.f177.ntmps = 14 := by kernel_rfl
@[go_sem] theorem f181_en : entersB Tryz.prog 181 = true := by kernel_rfl
@[go_sem] theorem f181_rs : Tryz.f181.results.toList = [.tmp 4] := by kernel_rfl
@[go_sem] theorem f181_nt : Tryz.f181.ntmps = 8 := by kernel_rfl
@[go_sem] theorem f182_en : entersB Tryz.prog 182 = true := by kernel_rfl
@[go_sem] theorem f182_rs : Tryz.f182.results.toList = [] := by kernel_rfl
@[go_sem] theorem f182_nt : Tryz.f182.ntmps = 13 := by kernel_rfl
@[go_sem] theorem f183_en : entersB Tryz.prog 183 = true := by kernel_rfl
@[go_sem] theorem f183_rs : Tryz.f183.results.toList = [.tmp 2, .tmp 3] := by kernel_rfl
@[go_sem] theorem f183_nt : Tryz.f183.ntmps = 34 := by kernel_rfl
@[go_sem] theorem f189_en : entersB Tryz.prog 189 = true := by kernel_rfl
@[go_sem] theorem f189_rs : Tryz.f189.results.toList = [.tmp 2] := by kernel_rfl
@[go_sem] theorem f189_nt : Tryz.f189.ntmps = 9 := by kernel_rfl
@[go_sem] theorem f190_en : entersB Tryz.prog 190 = true := by kernel_rfl
@[go_sem] theorem f190_rs : Tryz.f190.results.toList = [.tmp 8] := by kernel_rfl
@[go_sem] theorem f190_nt : Tryz.f190.ntmps = 54 := by kernel_rfl
@[go_sem] theorem f192_en : entersB Tryz.prog 192 = true := by kernel_rfl
@[go_sem] theorem f192_rs : Tryz.f192.results.toList = [.tmp 4] := by kernel_rfl
@[go_sem] theorem f192_nt : Tryz.f192.ntmps = 22 := by kernel_rfl
@[go_sem] theorem f193_en : entersB Tryz.prog 193 = true := by kernel_rfl
@[go_sem] theorem f193_rs : Tryz.f193.results.toList = [.tmp 6, .tmp 7] := by kernel_rfl
@[go_sem] theorem f193_nt : Tryz.f193.ntmps = 49 := by kernel_rfl
@[go_sem] theorem f195_en : entersB Tryz.prog 195 = true := by kernel_rfl
@[go_sem] theorem f195_rs : Tryz.f195.results.toList = [.tmp 2] := by kernel_rfl
@[go_sem] theorem f195_nt : Tryz.f195.ntmps = 29 := by kernel_rfl
@[go_sem] theorem f196_en : entersB Tryz.prog 196 = true := by kernel_rfl
@[go_sem] theorem f196_rs : Tryz.f196.results.toList = [.tmp 4] := by kernel_rfl
@[go_sem] theorem f196_nt : Tryz.f196.ntmps = 24 := by kernel_rfl
@[go_sem] theorem f197_en : entersB Tryz.prog 197 = true := by kernel_rfl
@[go_sem] theorem f197_rs : Tryz.f197.results.toList = [.tmp 2] := by kernel_rfl
@[go_sem] theorem f197_nt : Tryz.f197.ntmps = 20 := by kernel_rfl
@[go_sem] theorem f198_en : entersB Tryz.prog 198 = true := by kernel_rfl
@[go_sem] theorem f198_rs : Tryz.f198.results.toList = [.tmp 2] := by kernel_rfl
@[go_sem] theorem f198_nt : Tryz.f198.ntmps = 40 := by kernel_rfl
@[go_sem] theorem f199_en : entersB Tryz.prog 199 = true := by kernel_rfl
@[go_sem] theorem f199_rs : Tryz.f199.results.toList = [.cell 4 236] := by kernel_rfl
@[go_sem] theorem f199_nt : Tryz.f199.ntmps = 57 := by kernel_rfl
@[go_sem] theorem f200_en : entersB Tryz.prog 200 = true := by kernel_rfl
@[go_sem] theorem f200_rs : Tryz.f200.results.toList = [] := by kernel_rfl
@[go_sem] theorem f200_nt : Tryz.f200.ntmps = 49 := by kernel_rfl
@[go_sem] theorem f201_en : entersB Tryz.prog 201 = true := by kernel_rfl
@[go_sem] theorem f201_rs : Tryz.f201.results.toList = [] := by kernel_rfl
@[go_sem] theorem f201_nt : Tryz.f201.ntmps = 56 := by kernel_rfl
@[go_sem] theorem f202_en : entersB Tryz.prog 202 = true := by kernel_rfl
@[go_sem] theorem f202_rs : Tryz.f202.results.toList = [] := by kernel_rfl
@[go_sem] theorem f202_nt : Tryz.f202.ntmps = 65 := by kernel_rfl
@[go_sem] theorem f203_en : entersB Tryz.prog 203 = true := by kernel_rfl
@[go_sem] theorem f203_rs : Tryz.f203.results.toList = [.tmp 6, .tmp 7] := by kernel_rfl
@[go_sem] theorem f203_nt : Tryz.f203.ntmps = 57 := by kernel_rfl
@[go_sem] theorem f204_en : entersB Tryz.prog 204 = true := by kernel_rfl
@[go_sem] theorem f204_rs : Tryz.f204.results.toList = [] := by kernel_rfl
@[go_sem] theorem f204_nt : Tryz.f204.ntmps = 32 := by kernel_rfl
@[go_sem] theorem f205_en : entersB Tryz.prog 205 = true := by kernel_rfl
@[go_sem] theorem f205_rs : Tryz.f205.results.toList = [.tmp 6] := by kernel_rfl
@[go_sem] theorem f205_nt : Tryz.f205.ntmps = 133 := by kernel_rfl
@[go_sem] theorem f206_en : entersB Tryz.prog 206 = true := by kernel_rfl
@[go_sem] theorem f206_rs : Tryz.f206.results.toList = [.tmp 4] := by kernel_rfl
@[go_sem] theorem f206_nt : Tryz.f206.ntmps = 17 := by kernel_rfl
@[go_sem] theorem f207_en : entersB Tryz.prog 207 = true := by kernel_rfl
@[go_sem] theorem f207_rs : Tryz.f207.results.toList = [.tmp 8] := by kernel_rfl
@[go_sem] theorem f207_nt : Tryz.f207.ntmps = 84 := by kernel_rfl
@[go_sem] theorem f208_en : entersB Tryz.prog 208 = true := by kernel_rfl
@[go_sem] theorem f208_rs : Tryz.f208.results.toList = [.tmp 8, .tmp 9] := by kernel_rfl
@[go_sem] theorem f208_nt : Tryz.f208.ntmps = 168 := by kernel_rfl
@[go_sem] theorem f211_en : entersB Tryz.prog 211 = true := by kernel_rfl
@[go_sem] theorem f211_rs : Tryz.f211.results.toList = [.tmp 4] := by kernel_rfl
@[go_sem] theorem f211_nt : Tryz.f211.ntmps = 13 := by kernel_rfl
@[go_sem] theorem f212_en : entersB Tryz.prog 212 = true := by kernel_rfl
@[go_sem] theorem f212_rs : Tryz.f212.results.toList = [] := by kernel_rfl
@[go_sem] theorem f212_nt : Tryz.f212.ntmps = 134 := by kernel_rfl
@[go_sem] theorem f214_en : entersB Tryz.prog 214 = true := by kernel_rfl
@[go_sem] theorem f214_rs : Tryz.f214.results.toList = [.tmp 4] := by kernel_rfl
@[go_sem] theorem f214_nt : Tryz.f214.ntmps = 8 := by kernel_rfl
@[go_sem] theorem f215_en : entersB Tryz.prog 215 = true := by kernel_rfl
@[go_sem] theorem f215_rs : Tryz.f215.results.toList = [.tmp 2] := by kernel_rfl
@[go_sem] theorem f215_nt : Tryz.f215.ntmps = 33 := by kernel_rfl
@[go_sem] theorem f216_en : entersB Tryz.prog 216 = true := by kernel_rfl
@[go_sem] theorem f216_rs : Tryz.f216.results.toList = [.tmp 4] := by kernel_rfl
@[go_sem] theorem f216_nt : Tryz.f216.ntmps = 9 := by kernel_rfl
@[go_sem] theorem f218_en : entersB Tryz.prog 218 = true := by kernel_rfl
@[go_sem] theorem f218_rs : Tryz.f218.results.toList = [.tmp 2] := by kernel_rfl
@[go_sem] theorem f218_nt : Tryz.f218.ntmps = 7 := by kernel_rfl
@[go_sem] theorem f219_en : entersB Tryz.prog 219 = true := by kernel_rfl
@[go_sem] theorem f219_rs : Tryz.f219.results.toList = [] := by kernel_rfl
@[go_sem] theorem f219_nt : Tryz.f219.ntmps = 76 := by kernel_rfl
@[go_sem] theorem f220_en : entersB Tryz.prog 220 = true := by kernel_rfl
@[go_sem] theorem f220_rs : Tryz.f220.results.toList = [.tmp 6] := by kernel_rfl
@[go_sem] theorem f220_nt : Tryz.f220.ntmps = 15 := by kernel_rfl
@[go_sem] theorem f221_en : entersB Tryz.prog 221 = true := by kernel_rfl
@[go_sem] theorem f221_rs : Tryz.f221.results.toList = [.tmp 10] := by kernel_rfl
@[go_sem] theorem f221_nt : Tryz.f221.ntmps = 36 := by kernel_rfl
@[go_sem] theorem f222_en : entersB Tryz.prog 222 = true := by kernel_rfl
@[go_sem] theorem f222_rs : Tryz.f222.results.toList = [.tmp 2] := by kernel_rfl
@[go_sem] theorem f222_nt : Tryz.f222.ntmps = 6 := by kernel_rfl
@[go_sem] theorem f224_en : entersB Tryz.prog 224 = true := by kernel_rfl
@[go_sem] theorem f224_rs : Tryz.f224.results.toList = [] := by kernel_rfl
@[go_sem] theorem f224_nt : Tryz.f224.ntmps = 49 := by kernel_rfl
@[go_sem] theorem f225_en : entersB Tryz.prog 225 = true := by kernel_rfl
@[go_sem] theorem f225_rs : Tryz.f225.results.toList = [] := by kernel_rfl
@[go_sem] theorem f225_nt : Tryz.f225.ntmps = 56 := by kernel_rfl
@[go_sem] theorem f226_en : entersB Tryz.prog 226 = true := by kernel_rfl
@[go_sem] theorem f226_rs : Tryz.f226.results.toList = [] := by kernel_rfl
@[go_sem] theorem f226_nt : Tryz.f226.ntmps = 65 := by kernel_rfl
@[go_sem] theorem f227_en : entersB Tryz.prog 227 = true := by kernel_rfl
@[go_sem] theorem f227_rs : Tryz.f227.results.toList = [.tmp 6, .tmp 7] := by kernel_rfl
@[go_sem] theorem f227_nt : Tryz.f227.ntmps = 57 := by kernel_rfl
@[go_sem] theorem f228_en : entersB Tryz.prog 228 = true := by kernel_rfl
@[go_sem] theorem f228_rs : Tryz.f228.results.toList = [] := by kernel_rfl
@[go_sem] theorem f228_nt : Tryz.f228.ntmps = 32 := by kernel_rfl
@[go_sem] theorem f229_en : entersB Tryz.prog 229 = true := by kernel_rfl
@[go_sem] theorem f229_rs : Tryz.f229.results.toList = [.tmp 6] := by kernel_rfl
@[go_sem] theorem f229_nt : Tryz.f229.ntmps = 133 := by kernel_rfl
@[go_sem] theorem f230_en : entersB Tryz.prog 230 = true := by kernel_rfl
@[go_sem] theorem f230_rs : Tryz.f230.results.toList = [.tmp 4] := by kernel_rfl
@[go_sem] theorem f230_nt : Tryz.f230.ntmps = 17 := by kernel_rfl
@[go_sem] theorem f231_en : entersB Tryz.prog 231 = true := by kernel_rfl
@[go_sem] theorem f231_rs : Tryz.f231.results.toList = [.tmp 8] := by kernel_rfl
@[go_sem] theorem f231_nt : Tryz.f231.ntmps = 84 := by kernel_rfl
@[go_sem] theorem f232_en : entersB Tryz.prog 232 = true := by kernel_rfl
@[go_sem] theorem f232_rs : Tryz.f232.results.toList = [.tmp 8, .tmp 9] := by kernel_rfl
@[go_sem] theorem f232_nt : Tryz.f232.ntmps = 168 := by kernel_rfl
@[go_sem] theorem f237_en : entersB Tryz.prog 237 = true := by kernel_rfl
@[go_sem] theorem f237_rs : Tryz.f237.results.toList = [.tmp 8, .tmp 9] := by kernel_rfl
@[go_sem] theorem f237_nt : Tryz.f237.ntmps = 28 := by kernel_rfl
@[go_sem] theorem f238_en : entersB Tryz.prog 238 = true := by kernel_rfl
@[go_sem] theorem f238_rs : Tryz.f238.results.toList = [] := by kernel_rfl
@[go_sem] theorem f238_nt : Tryz.f238.ntmps = 76 := by kernel_rfl
@[go_sem] theorem f239_en : entersB Tryz.prog 239 = true := by kernel_rfl
@[go_sem] theorem f239_rs : Tryz.f239.results.toList = [.tmp 6] := by kernel_rfl
@[go_sem] theorem f239_nt : Tryz.f239.ntmps = 15 := by kernel_rfl
@[go_sem] theorem f240_en : entersB Tryz.prog 240 = true := by kernel_rfl
@[go_sem] theorem f240_rs : Tryz.f240.results.toList = [.tmp 10] := by kernel_rfl
@[go_sem] theorem f240_nt : Tryz.f240.ntmps = 36 := by kernel_rfl
@[go_sem] theorem f248_en : entersB Tryz.prog 248 = true := by kernel_rfl
@[go_sem] theorem f248_rs : Tryz.f248.results.toList = [.tmp 8, .tmp 9] := by kernel_rfl
@[go_sem] theorem f248_nt : Tryz.f248.ntmps = 28 := by kernel_rfl
@[go_sem] theorem f253_en : entersB Tryz.prog 253 = true := by kernel_rfl
@[go_sem] theorem f253_rs : Tryz.f253.results.toList = [.tmp 10] := by kernel_rfl
@[go_sem] theorem f253_nt : Tryz.f253.ntmps = 43 := by kernel_rfl
@[go_sem] theorem f254_en : entersB Tryz.prog 254 = true := by kernel_rfl
@[go_sem] theorem f254_rs : Tryz.f254.results.toList = [] := by kernel_rfl
@[go_sem] theorem f254_nt : Tryz.f254.ntmps = 19 := by kernel_rfl
@[go_sem] theorem f255_en : entersB Tryz.prog 255 = true := by kernel_rfl
@[go_sem] theorem f255_rs : Tryz.f255.results.toList = [.tmp 2, .tmp 3] := by kernel_rfl
@[go_sem] theorem f255_nt : Tryz.f255.ntmps = 39 := by kernel_rfl
@[go_sem] theorem f257_en : entersB Tryz.prog 257 = true := by kernel_rfl
@[go_sem] theorem f257_rs : Tryz.f257.results.toList = [.tmp 4] := by kernel_rfl
@[go_sem] theorem f257_nt : Tryz.f257.ntmps = 11 := by kernel_rfl
@[go_sem] theorem f258_en : entersB Tryz.prog 258 = true := by kernel_rfl
@[go_sem] theorem f258_rs : Tryz.f258.results.toList = [.tmp 4] := by kernel_rfl
@[go_sem] theorem f258_nt : Tryz.f258.ntmps = 11 := by kernel_rfl
@[go_sem] theorem f307_en : entersB Tryz.prog 307 = true := by kernel_rfl
@[go_sem] theorem f307_rs : Tryz.f307.results.toList = [] := by kernel_rfl
@[go_sem] theorem f307_nt : Tryz.f307.ntmps = 5 := by kernel_rfl
@[go_sem] theorem f0_en : entersB Tryz.prog 0 = false := by kernel_rfl
@[go_sem] theorem f1_en : entersB Tryz.prog 1 = false := by kernel_rfl
@[go_sem] theorem f210_en : entersB Tryz.prog 210 = false := by kernel_rfl
@[go_sem] theorem f294_en : entersB Tryz.prog 294 = false := by kernel_rfl
@[go_sem] theorem f295_en : entersB Tryz.prog 295 = false := by kernel_rfl
@[go_sem] theorem f296_en : entersB Tryz.prog 296 = false := by kernel_rfl
@[go_sem] theorem f297_en : entersB Tryz.prog 297 = false := by kernel_rfl
@[go_sem] theorem f298_en : entersB Tryz.prog 298 = false := by kernel_rfl
@[go_sem] theorem f299_en : entersB Tryz.prog 299 = false := by kernel_rfl
@[go_sem] theorem f300_en : entersB Tryz.prog 300 = false := by kernel_rfl
@[go_sem] theorem f301_en : entersB Tryz.prog 301 = false := by kernel_rfl
@[go_sem] theorem f302_en : entersB Tryz.prog 302 = false := by kernel_rfl
@[go_sem] theorem f303_en : entersB Tryz.prog 303 = false := by kernel_rfl
@[go_sem] theorem f304_en : entersB Tryz.prog 304 = false := by kernel_rfl
@[go_sem] theorem f305_en : entersB Tryz.prog 305 = false := by kernel_rfl
@[go_sem] theorem f306_en : entersB Tryz.prog 306 = false := by kernel_rfl
end Go.Proofs.YtgcjenfdndhhpaaGreatDoor
