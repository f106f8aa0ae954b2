/- Facts on the types. No condition. -/
import Derived.Test.YtppmkgaobeccfaaGreatDoorRows
import Derived.Test.YtppmkgaobeccfaaGreatDoorHCoreC
namespace Go.Proofs.YtppmkgaobeccfaaGreatDoor
open Go Go.RowKit
@[go_sem] theorem t3_ag : aggT Tryz.prog 3 = false := by kernel_rfl
@[go_sem] theorem t3_sz : szT Tryz.prog 3 = 1 := by kernel_rfl
@[go_sem] theorem t3_in : (Tryz.prog.info? 3).isSome = true := by kernel_rfl
@[go_sem] theorem t3_un : (Tryz.prog.underlying 3).isSome = true := by kernel_rfl
@[go_sem] theorem t3_ze : zeroT Tryz.prog 3 = some [.int .i64 0] := by kernel_rfl
@[go_sem] theorem t3_by : Tryz.prog.bytesOf 3 = 8 := by kernel_rfl
@[go_sem] theorem t4_ag : aggT Tryz.prog 4 = false := by kernel_rfl
@[go_sem] theorem t4_sz : szT Tryz.prog 4 = 1 := by kernel_rfl
@[go_sem] theorem t4_in : (Tryz.prog.info? 4).isSome = true := by kernel_rfl
@[go_sem] theorem t4_un : (Tryz.prog.underlying 4).isSome = true := by kernel_rfl
@[go_sem] theorem t4_ze : zeroT Tryz.prog 4 = some [.bool false] := by kernel_rfl
@[go_sem] theorem t4_by : Tryz.prog.bytesOf 4 = 1 := by kernel_rfl
@[go_sem] theorem t5_ag : aggT Tryz.prog 5 = false := by kernel_rfl
@[go_sem] theorem t5_sz : szT Tryz.prog 5 = 1 := by kernel_rfl
@[go_sem] theorem t5_in : (Tryz.prog.info? 5).isSome = true := by kernel_rfl
@[go_sem] theorem t5_un : (Tryz.prog.underlying 5).isSome = true := by kernel_rfl
@[go_sem] theorem t5_ze : zeroT Tryz.prog 5 = some [.int .u8 0] := by kernel_rfl
@[go_sem] theorem t5_by : Tryz.prog.bytesOf 5 = 1 := by kernel_rfl
@[go_sem] theorem t9_ag : aggT Tryz.prog 9 = false := by kernel_rfl
@[go_sem] theorem t9_sz : szT Tryz.prog 9 = 1 := by kernel_rfl
@[go_sem] theorem t9_in : (Tryz.prog.info? 9).isSome = true := by kernel_rfl
@[go_sem] theorem t9_un : (Tryz.prog.underlying 9).isSome = true := by kernel_rfl
@[go_sem] theorem t9_ze : zeroT Tryz.prog 9 = some [.str ⟨#[]⟩] := by kernel_rfl
@[go_sem] theorem t9_by : Tryz.prog.bytesOf 9 = 16 := by kernel_rfl
@[go_sem] theorem t22_ag : aggT Tryz.prog 22 = false := by kernel_rfl
@[go_sem] theorem t22_sz : szT Tryz.prog 22 = 1 := by kernel_rfl
@[go_sem] theorem t22_in : (Tryz.prog.info? 22).isSome = true := by kernel_rfl
@[go_sem] theorem t22_un : (Tryz.prog.underlying 22).isSome = true := by kernel_rfl
@[go_sem] theorem t22_ze : zeroT Tryz.prog 22 = some [.sl none 0] := by kernel_rfl
@[go_sem] theorem t22_by : Tryz.prog.bytesOf 22 = 24 := by kernel_rfl
@[go_sem] theorem t25_ag : aggT Tryz.prog 25 = true := by kernel_rfl
@[go_sem] theorem t25_sz : szT Tryz.prog 25 = 2 := by kernel_rfl
@[go_sem] theorem t25_in : (Tryz.prog.info? 25).isSome = true := by kernel_rfl
@[go_sem] theorem t25_un : (Tryz.prog.underlying 25).isSome = true := by kernel_rfl
@[go_sem] theorem t25_ze : zeroT Tryz.prog 25 = some [.sl none 0, .int .i64 0] := by kernel_rfl
@[go_sem] theorem t25_by : Tryz.prog.bytesOf 25 = 32 := by kernel_rfl
@[go_sem] theorem t25_fo : fieldsOk Tryz.prog 25 = true := by kernel_rfl
@[go_sem] theorem t26_ag : aggT Tryz.prog 26 = false := by kernel_rfl
@[go_sem] theorem t26_sz : szT Tryz.prog 26 = 1 := by kernel_rfl
@[go_sem] theorem t26_in : (Tryz.prog.info? 26).isSome = true := by kernel_rfl
@[go_sem] theorem t26_un : (Tryz.prog.underlying 26).isSome = true := by kernel_rfl
@[go_sem] theorem t26_ze : zeroT Tryz.prog 26 = some [.sl none 0] := by kernel_rfl
@[go_sem] theorem t26_by : Tryz.prog.bytesOf 26 = 24 := by kernel_rfl
@[go_sem] theorem t29_ag : aggT Tryz.prog 29 = false := by kernel_rfl
@[go_sem] theorem t29_sz : szT Tryz.prog 29 = 1 := by kernel_rfl
@[go_sem] theorem t29_in : (Tryz.prog.info? 29).isSome = true := by kernel_rfl
@[go_sem] theorem t29_un : (Tryz.prog.underlying 29).isSome = true := by kernel_rfl
@[go_sem] theorem t29_ze : zeroT Tryz.prog 29 = some [.int .i64 0] := by kernel_rfl
@[go_sem] theorem t29_by : Tryz.prog.bytesOf 29 = 8 := by kernel_rfl
@[go_sem] theorem t33_ag : aggT Tryz.prog 33 = true := by kernel_rfl
@[go_sem] theorem t33_sz : szT Tryz.prog 33 = 3 := by kernel_rfl
@[go_sem] theorem t33_in : (Tryz.prog.info? 33).isSome = true := by kernel_rfl
@[go_sem] theorem t33_un : (Tryz.prog.underlying 33).isSome = true := by kernel_rfl
@[go_sem] theorem t33_ze : zeroT Tryz.prog 33 = some [.int .i64 0, .int .i64 0, .int .i64 0] := by kernel_rfl
@[go_sem] theorem t33_by : Tryz.prog.bytesOf 33 = 24 := by kernel_rfl
@[go_sem] theorem t33_fo : fieldsOk Tryz.prog 33 = true := by kernel_rfl
@[go_sem] theorem t35_ag : aggT Tryz.prog 35 = true := by kernel_rfl
@[go_sem] theorem t35_sz : szT Tryz.prog 35 = 5 := by kernel_rfl
@[go_sem] theorem t35_in : (Tryz.prog.info? 35).isSome = true := by kernel_rfl
@[go_sem] theorem t35_un : (Tryz.prog.underlying 35).isSome = true := by kernel_rfl
@[go_sem] theorem t35_ze : zeroT Tryz.prog 35 = some [.int .i64 0, .str ⟨#[]⟩, .int .i64 0, .int .i64 0, .int .i64 0] := by kernel_rfl
@[go_sem] theorem t35_by : Tryz.prog.bytesOf 35 = 48 := by kernel_rfl
@[go_sem] theorem t35_fo : fieldsOk Tryz.prog 35 = true := by kernel_rfl
@[go_sem] theorem t37_ag : aggT Tryz.prog 37 = true := by kernel_rfl
@[go_sem] theorem t37_sz : szT Tryz.prog 37 = 7 := by kernel_rfl
@[go_sem] theorem t37_in : (Tryz.prog.info? 37).isSome = true := by kernel_rfl
@[go_sem] theorem t37_un : (Tryz.prog.underlying 37).isSome = true := by kernel_rfl
@[go_sem] theorem t37_ze : zeroT Tryz.prog 37 = some [.str ⟨#[]⟩, .int .i64 0, .int .i64 0, .str ⟨#[]⟩, .int .i64 0, .int .i64 0, .int .i64 0] := by kernel_rfl
@[go_sem] theorem t37_by : Tryz.prog.bytesOf 37 = 72 := by kernel_rfl
@[go_sem] theorem t37_fo : fieldsOk Tryz.prog 37 = true := by kernel_rfl
@[go_sem] theorem t46_ag : aggT Tryz.prog 46 = false := by kernel_rfl
@[go_sem] theorem t46_sz : szT Tryz.prog 46 = 1 := by kernel_rfl
@[go_sem] theorem t46_in : (Tryz.prog.info? 46).isSome = true := by kernel_rfl
@[go_sem] theorem t46_un : (Tryz.prog.underlying 46).isSome = true := by kernel_rfl
@[go_sem] theorem t46_ze : zeroT Tryz.prog 46 = some [.sl none 0] := by kernel_rfl
@[go_sem] theorem t46_by : Tryz.prog.bytesOf 46 = 24 := by kernel_rfl
@[go_sem] theorem t57_ag : aggT Tryz.prog 57 = true := by kernel_rfl
@[go_sem] theorem t57_sz : szT Tryz.prog 57 = 2 := by kernel_rfl
@[go_sem] theorem t57_in : (Tryz.prog.info? 57).isSome = true := by kernel_rfl
@[go_sem] theorem t57_un : (Tryz.prog.underlying 57).isSome = true := by kernel_rfl
@[go_sem] theorem t57_ze : zeroT Tryz.prog 57 = some [.int .i64 0, .int .i64 0] := by kernel_rfl
@[go_sem] theorem t57_by : Tryz.prog.bytesOf 57 = 16 := by kernel_rfl
@[go_sem] theorem t57_fo : fieldsOk Tryz.prog 57 = true := by kernel_rfl
@[go_sem] theorem t62_ag : aggT Tryz.prog 62 = false := by kernel_rfl
@[go_sem] theorem t62_sz : szT Tryz.prog 62 = 1 := by kernel_rfl
@[go_sem] theorem t62_in : (Tryz.prog.info? 62).isSome = true := by kernel_rfl
@[go_sem] theorem t62_un : (Tryz.prog.underlying 62).isSome = true := by kernel_rfl
@[go_sem] theorem t62_ze : zeroT Tryz.prog 62 = some [.sl none 0] := by kernel_rfl
@[go_sem] theorem t62_by : Tryz.prog.bytesOf 62 = 24 := by kernel_rfl
@[go_sem] theorem t66_ag : aggT Tryz.prog 66 = true := by kernel_rfl
@[go_sem] theorem t66_sz : szT Tryz.prog 66 = 2 := by kernel_rfl
@[go_sem] theorem t66_in : (Tryz.prog.info? 66).isSome = true := by kernel_rfl
@[go_sem] theorem t66_un : (Tryz.prog.underlying 66).isSome = true := by kernel_rfl
@[go_sem] theorem t66_ze : zeroT Tryz.prog 66 = some [.int .i64 0, .int .i64 0] := by kernel_rfl
@[go_sem] theorem t66_by : Tryz.prog.bytesOf 66 = 16 := by kernel_rfl
@[go_sem] theorem t66_fo : fieldsOk Tryz.prog 66 = true := by kernel_rfl
@[go_sem] theorem t68_ag : aggT Tryz.prog 68 = true := by kernel_rfl
@[go_sem] theorem t68_sz : szT Tryz.prog 68 = 11 := by kernel_rfl
@[go_sem] theorem t68_in : (Tryz.prog.info? 68).isSome = true := by kernel_rfl
@[go_sem] theorem t68_un : (Tryz.prog.underlying 68).isSome = true := by kernel_rfl
@[go_sem] theorem t68_ze : zeroT Tryz.prog 68 = some [.str ⟨#[]⟩, .int .i64 0, .int .i64 0, .int .i64 0, .int .i64 0, .int .i64 0, .int .i64 0, .int .i64 0, .int .i64 0, .int .i64 0, .int .i64 0] := by kernel_rfl
@[go_sem] theorem t68_by : Tryz.prog.bytesOf 68 = 96 := by kernel_rfl
@[go_sem] theorem t68_fo : fieldsOk Tryz.prog 68 = true := by kernel_rfl
@[go_sem] theorem t88_ag : aggT Tryz.prog 88 = false := by kernel_rfl
@[go_sem] theorem t88_sz : szT Tryz.prog 88 = 1 := by kernel_rfl
@[go_sem] theorem t88_in : (Tryz.prog.info? 88).isSome = true := by kernel_rfl
@[go_sem] theorem t88_un : (Tryz.prog.underlying 88).isSome = true := by kernel_rfl
@[go_sem] theorem t88_ze : zeroT Tryz.prog 88 = some [.sl none 0] := by kernel_rfl
@[go_sem] theorem t88_by : Tryz.prog.bytesOf 88 = 24 := by kernel_rfl
@[go_sem] theorem t91_ag : aggT Tryz.prog 91 = true := by kernel_rfl
@[go_sem] theorem t91_sz : szT Tryz.prog 91 = 2 := by kernel_rfl
@[go_sem] theorem t91_in : (Tryz.prog.info? 91).isSome = true := by kernel_rfl
@[go_sem] theorem t91_un : (Tryz.prog.underlying 91).isSome = true := by kernel_rfl
@[go_sem] theorem t91_ze : zeroT Tryz.prog 91 = some [.str ⟨#[]⟩, .sl none 0] := by kernel_rfl
@[go_sem] theorem t91_by : Tryz.prog.bytesOf 91 = 40 := by kernel_rfl
@[go_sem] theorem t91_fo : fieldsOk Tryz.prog 91 = true := by kernel_rfl
@[go_sem] theorem t96_ag : aggT Tryz.prog 96 = false := by kernel_rfl
@[go_sem] theorem t96_sz : szT Tryz.prog 96 = 1 := by kernel_rfl
@[go_sem] theorem t96_in : (Tryz.prog.info? 96).isSome = true := by kernel_rfl
@[go_sem] theorem t96_un : (Tryz.prog.underlying 96).isSome = true := by kernel_rfl
@[go_sem] theorem t96_ze : zeroT Tryz.prog 96 = some [.map none] := by kernel_rfl
@[go_sem] theorem t96_by : Tryz.prog.bytesOf 96 = 8 := by kernel_rfl
@[go_sem] theorem t126_ag : aggT Tryz.prog 126 = false := by kernel_rfl
@[go_sem] theorem t126_sz : szT Tryz.prog 126 = 1 := by kernel_rfl
@[go_sem] theorem t126_in : (Tryz.prog.info? 126).isSome = true := by kernel_rfl
@[go_sem] theorem t126_un : (Tryz.prog.underlying 126).isSome = true := by kernel_rfl
@[go_sem] theorem t126_ze : zeroT Tryz.prog 126 = some [.map none] := by kernel_rfl
@[go_sem] theorem t126_by : Tryz.prog.bytesOf 126 = 8 := by kernel_rfl
@[go_sem] theorem t138_ag : aggT Tryz.prog 138 = true := by kernel_rfl
@[go_sem] theorem t138_sz : szT Tryz.prog 138 = 2 := by kernel_rfl
@[go_sem] theorem t138_in : (Tryz.prog.info? 138).isSome = true := by kernel_rfl
@[go_sem] theorem t138_un : (Tryz.prog.underlying 138).isSome = true := by kernel_rfl
@[go_sem] theorem t138_ze : zeroT Tryz.prog 138 = some [.str ⟨#[]⟩, .int .i64 0] := by kernel_rfl
@[go_sem] theorem t138_by : Tryz.prog.bytesOf 138 = 24 := by kernel_rfl
@[go_sem] theorem t138_fo : fieldsOk Tryz.prog 138 = true := by kernel_rfl
@[go_sem] theorem t147_ag : aggT Tryz.prog 147 = true := by kernel_rfl
@[go_sem] theorem t147_sz : szT Tryz.prog 147 = 2 := by kernel_rfl
@[go_sem] theorem t147_in : (Tryz.prog.info? 147).isSome = true := by kernel_rfl
@[go_sem] theorem t147_un : (Tryz.prog.underlying 147).isSome = true := by kernel_rfl
@[go_sem] theorem t147_ze : zeroT Tryz.prog 147 = some [.int .i64 0, .int .i64 0] := by kernel_rfl
@[go_sem] theorem t147_by : Tryz.prog.bytesOf 147 = 16 := by kernel_rfl
@[go_sem] theorem t147_fo : fieldsOk Tryz.prog 147 = true := by kernel_rfl
@[go_sem] theorem t160_ag : aggT Tryz.prog 160 = false := by kernel_rfl
@[go_sem] theorem t160_sz : szT Tryz.prog 160 = 1 := by kernel_rfl
@[go_sem] theorem t160_in : (Tryz.prog.info? 160).isSome = true := by kernel_rfl
@[go_sem] theorem t160_un : (Tryz.prog.underlying 160).isSome = true := by kernel_rfl
@[go_sem] theorem t160_ze : zeroT Tryz.prog 160 = some [.sl none 0] := by kernel_rfl
@[go_sem] theorem t160_by : Tryz.prog.bytesOf 160 = 24 := by kernel_rfl
@[go_sem] theorem t161_ag : aggT Tryz.prog 161 = false := by kernel_rfl
@[go_sem] theorem t161_sz : szT Tryz.prog 161 = 1 := by kernel_rfl
@[go_sem] theorem t161_in : (Tryz.prog.info? 161).isSome = true := by kernel_rfl
@[go_sem] theorem t161_un : (Tryz.prog.underlying 161).isSome = true := by kernel_rfl
@[go_sem] theorem t161_ze : zeroT Tryz.prog 161 = some [.ptr none] := by kernel_rfl
@[go_sem] theorem t161_by : Tryz.prog.bytesOf 161 = 8 := by kernel_rfl
@[go_sem] theorem t166_ag : aggT Tryz.prog 166 = true := by kernel_rfl
@[go_sem] theorem t166_sz : szT Tryz.prog 166 = 2 := by kernel_rfl
@[go_sem] theorem t166_in : (Tryz.prog.info? 166).isSome = true := by kernel_rfl
@[go_sem] theorem t166_un : (Tryz.prog.underlying 166).isSome = true := by kernel_rfl
@[go_sem] theorem t166_ze : zeroT Tryz.prog 166 = some [.int .i64 0, .int .i64 0] := by kernel_rfl
@[go_sem] theorem t166_by : Tryz.prog.bytesOf 166 = 16 := by kernel_rfl
@[go_sem] theorem t166_fo : fieldsOk Tryz.prog 166 = true := by kernel_rfl
@[go_sem] theorem t168_ag : aggT Tryz.prog 168 = false := by kernel_rfl
@[go_sem] theorem t168_sz : szT Tryz.prog 168 = 1 := by kernel_rfl
@[go_sem] theorem t168_in : (Tryz.prog.info? 168).isSome = true := by kernel_rfl
@[go_sem] theorem t168_un : (Tryz.prog.underlying 168).isSome = true := by kernel_rfl
@[go_sem] theorem t168_ze : zeroT Tryz.prog 168 = some [.nilf] := by kernel_rfl
@[go_sem] theorem t168_by : Tryz.prog.bytesOf 168 = 8 := by kernel_rfl
@[go_sem] theorem t182_ag : aggT Tryz.prog 182 = true := by kernel_rfl
@[go_sem] theorem t182_sz : szT Tryz.prog 182 = 2 := by kernel_rfl
@[go_sem] theorem t182_in : (Tryz.prog.info? 182).isSome = true := by kernel_rfl
@[go_sem] theorem t182_un : (Tryz.prog.underlying 182).isSome = true := by kernel_rfl
@[go_sem] theorem t182_ze : zeroT Tryz.prog 182 = some [.str ⟨#[]⟩, .int .i64 0] := by kernel_rfl
@[go_sem] theorem t182_by : Tryz.prog.bytesOf 182 = 24 := by kernel_rfl
@[go_sem] theorem t182_fo : fieldsOk Tryz.prog 182 = true := by kernel_rfl
@[go_sem] theorem t209_ag : aggT Tryz.prog 209 = false := by kernel_rfl
@[go_sem] theorem t209_sz : szT Tryz.prog 209 = 1 := by kernel_rfl
@[go_sem] theorem t209_in : (Tryz.prog.info? 209).isSome = true := by kernel_rfl
@[go_sem] theorem t209_un : (Tryz.prog.underlying 209).isSome = true := by kernel_rfl
@[go_sem] theorem t209_ze : zeroT Tryz.prog 209 = some [.int .u64 0] := by kernel_rfl
@[go_sem] theorem t209_by : Tryz.prog.bytesOf 209 = 8 := by kernel_rfl
@[go_sem] theorem t215_ag : aggT Tryz.prog 215 = true := by kernel_rfl
@[go_sem] theorem t215_sz : szT Tryz.prog 215 = 3 := by kernel_rfl
@[go_sem] theorem t215_in : (Tryz.prog.info? 215).isSome = true := by kernel_rfl
@[go_sem] theorem t215_un : (Tryz.prog.underlying 215).isSome = true := by kernel_rfl
@[go_sem] theorem t215_ze : zeroT Tryz.prog 215 = some [.int .i64 0, .int .i64 0, .str ⟨#[]⟩] := by kernel_rfl
@[go_sem] theorem t215_by : Tryz.prog.bytesOf 215 = 32 := by kernel_rfl
@[go_sem] theorem t215_fo : fieldsOk Tryz.prog 215 = true := by kernel_rfl
@[go_sem] theorem t217_ag : aggT Tryz.prog 217 = true := by kernel_rfl
@[go_sem] theorem t217_sz : szT Tryz.prog 217 = 7 := by kernel_rfl
@[go_sem] theorem t217_in : (Tryz.prog.info? 217).isSome = true := by kernel_rfl
@[go_sem] theorem t217_un : (Tryz.prog.underlying 217).isSome = true := by kernel_rfl
@[go_sem] theorem t217_ze : zeroT Tryz.prog 217 = some [.str ⟨#[]⟩, .int .i64 0, .int .i64 0, .str ⟨#[]⟩, .int .i64 0, .int .i64 0, .int .i64 0] := by kernel_rfl
@[go_sem] theorem t217_by : Tryz.prog.bytesOf 217 = 72 := by kernel_rfl
@[go_sem] theorem t217_fo : fieldsOk Tryz.prog 217 = true := by kernel_rfl
@[go_sem] theorem t221_ag : aggT Tryz.prog 221 = true := by kernel_rfl
@[go_sem] theorem t221_sz : szT Tryz.prog 221 = 2 := by kernel_rfl
@[go_sem] theorem t221_in : (Tryz.prog.info? 221).isSome = true := by kernel_rfl
@[go_sem] theorem t221_un : (Tryz.prog.underlying 221).isSome = true := by kernel_rfl
@[go_sem] theorem t221_ze : zeroT Tryz.prog 221 = some [.str ⟨#[]⟩, .sl none 0] := by kernel_rfl
@[go_sem] theorem t221_by : Tryz.prog.bytesOf 221 = 40 := by kernel_rfl
@[go_sem] theorem t221_fo : fieldsOk Tryz.prog 221 = true := by kernel_rfl
@[go_sem] theorem t222_ag : aggT Tryz.prog 222 = false := by kernel_rfl
@[go_sem] theorem t222_sz : szT Tryz.prog 222 = 1 := by kernel_rfl
@[go_sem] theorem t222_in : (Tryz.prog.info? 222).isSome = true := by kernel_rfl
@[go_sem] theorem t222_un : (Tryz.prog.underlying 222).isSome = true := by kernel_rfl
@[go_sem] theorem t222_ze : zeroT Tryz.prog 222 = some [.sl none 0] := by kernel_rfl
@[go_sem] theorem t222_by : Tryz.prog.bytesOf 222 = 24 := by kernel_rfl
@[go_sem] theorem t224_ag : aggT Tryz.prog 224 = true := by kernel_rfl
@[go_sem] theorem t224_sz : szT Tryz.prog 224 = 5 := by kernel_rfl
@[go_sem] theorem t224_in : (Tryz.prog.info? 224).isSome = true := by kernel_rfl
@[go_sem] theorem t224_un : (Tryz.prog.underlying 224).isSome = true := by kernel_rfl
@[go_sem] theorem t224_ze : zeroT Tryz.prog 224 = some [.str ⟨#[]⟩, .int .i64 0, .str ⟨#[]⟩, .sl none 0, .bool false] := by kernel_rfl
@[go_sem] theorem t224_by : Tryz.prog.bytesOf 224 = 72 := by kernel_rfl
@[go_sem] theorem t224_fo : fieldsOk Tryz.prog 224 = true := by kernel_rfl
@[go_sem] theorem t234_ag : aggT Tryz.prog 234 = true := by kernel_rfl
@[go_sem] theorem t234_sz : szT Tryz.prog 234 = 6 := by kernel_rfl
@[go_sem] theorem t234_in : (Tryz.prog.info? 234).isSome = true := by kernel_rfl
@[go_sem] theorem t234_un : (Tryz.prog.underlying 234).isSome = true := by kernel_rfl
@[go_sem] theorem t234_ze : zeroT Tryz.prog 234 = some [.int .i64 0, .int .i64 0, .int .i64 0, .int .i64 0, .int .i64 0, .int .i64 0] := by kernel_rfl
@[go_sem] theorem t234_by : Tryz.prog.bytesOf 234 = 48 := by kernel_rfl
@[go_sem] theorem t234_fo : fieldsOk Tryz.prog 234 = true := by kernel_rfl
@[go_sem] theorem t243_ag : aggT Tryz.prog 243 = false := by kernel_rfl
@[go_sem] theorem t243_sz : szT Tryz.prog 243 = 1 := by kernel_rfl
@[go_sem] theorem t243_in : (Tryz.prog.info? 243).isSome = true := by kernel_rfl
@[go_sem] theorem t243_un : (Tryz.prog.underlying 243).isSome = true := by kernel_rfl
@[go_sem] theorem t243_ze : zeroT Tryz.prog 243 = some [.int .u64 0] := by kernel_rfl
@[go_sem] theorem t243_by : Tryz.prog.bytesOf 243 = 8 := by kernel_rfl
@[go_sem] theorem t276_ag : aggT Tryz.prog 276 = false := by kernel_rfl
@[go_sem] theorem t276_sz : szT Tryz.prog 276 = 1 := by kernel_rfl
@[go_sem] theorem t276_in : (Tryz.prog.info? 276).isSome = true := by kernel_rfl
@[go_sem] theorem t276_un : (Tryz.prog.underlying 276).isSome = true := by kernel_rfl
@[go_sem] theorem t276_ze : zeroT Tryz.prog 276 = some [.nili] := by kernel_rfl
@[go_sem] theorem t276_by : Tryz.prog.bytesOf 276 = 16 := by kernel_rfl
@[go_sem] theorem t296_ag : aggT Tryz.prog 296 = true := by kernel_rfl
@[go_sem] theorem t296_sz : szT Tryz.prog 296 = 3 := by kernel_rfl
@[go_sem] theorem t296_in : (Tryz.prog.info? 296).isSome = true := by kernel_rfl
@[go_sem] theorem t296_un : (Tryz.prog.underlying 296).isSome = true := by kernel_rfl
@[go_sem] theorem t296_ze : zeroT Tryz.prog 296 = some [.str ⟨#[]⟩, .str ⟨#[]⟩, .nili] := by kernel_rfl
@[go_sem] theorem t296_by : Tryz.prog.bytesOf 296 = 48 := by kernel_rfl
@[go_sem] theorem t296_fo : fieldsOk Tryz.prog 296 = true := by kernel_rfl
@[go_sem] theorem t303_ag : aggT Tryz.prog 303 = true := by kernel_rfl
@[go_sem] theorem t303_sz : szT Tryz.prog 303 = 1 := by kernel_rfl
@[go_sem] theorem t303_in : (Tryz.prog.info? 303).isSome = true := by kernel_rfl
@[go_sem] theorem t303_un : (Tryz.prog.underlying 303).isSome = true := by kernel_rfl
@[go_sem] theorem t303_ze : zeroT Tryz.prog 303 = some [.str ⟨#[]⟩] := by kernel_rfl
@[go_sem] theorem t303_by : Tryz.prog.bytesOf 303 = 16 := by kernel_rfl
@[go_sem] theorem t303_fo : fieldsOk Tryz.prog 303 = true := by kernel_rfl
@[go_sem] theorem t25_f0 : fieldT Tryz.prog 25 0 = some (0, 1) := by kernel_rfl
@[go_sem] theorem t25_f1 : fieldT Tryz.prog 25 1 = some (1, 1) := by kernel_rfl
@[go_sem] theorem t33_f0 : fieldT Tryz.prog 33 0 = some (0, 1) := by kernel_rfl
@[go_sem] theorem t33_f1 : fieldT Tryz.prog 33 1 = some (1, 1) := by kernel_rfl
@[go_sem] theorem t33_f2 : fieldT Tryz.prog 33 2 = some (2, 1) := by kernel_rfl
@[go_sem] theorem t35_f0 : fieldT Tryz.prog 35 0 = some (0, 1) := by kernel_rfl
@[go_sem] theorem t35_f1 : fieldT Tryz.prog 35 1 = some (1, 1) := by kernel_rfl
@[go_sem] theorem t35_f2 : fieldT Tryz.prog 35 2 = some (2, 3) := by kernel_rfl
@[go_sem] theorem t37_f0 : fieldT Tryz.prog 37 0 = some (0, 1) := by kernel_rfl
@[go_sem] theorem t37_f1 : fieldT Tryz.prog 37 1 = some (1, 1) := by kernel_rfl
@[go_sem] theorem t37_f2 : fieldT Tryz.prog 37 2 = some (2, 5) := by kernel_rfl
@[go_sem] theorem t57_f0 : fieldT Tryz.prog 57 0 = some (0, 1) := by kernel_rfl
@[go_sem] theorem t57_f1 : fieldT Tryz.prog 57 1 = some (1, 1) := by kernel_rfl
@[go_sem] theorem t66_f0 : fieldT Tryz.prog 66 0 = some (0, 1) := by kernel_rfl
@[go_sem] theorem t66_f1 : fieldT Tryz.prog 66 1 = some (1, 1) := by kernel_rfl
@[go_sem] theorem t68_f0 : fieldT Tryz.prog 68 0 = some (0, 1) := by kernel_rfl
@[go_sem] theorem t68_f1 : fieldT Tryz.prog 68 1 = some (1, 1) := by kernel_rfl
@[go_sem] theorem t68_f2 : fieldT Tryz.prog 68 2 = some (2, 1) := by kernel_rfl
@[go_sem] theorem t68_f3 : fieldT Tryz.prog 68 3 = some (3, 1) := by kernel_rfl
@[go_sem] theorem t68_f4 : fieldT Tryz.prog 68 4 = some (4, 3) := by kernel_rfl
@[go_sem] theorem t68_f5 : fieldT Tryz.prog 68 5 = some (7, 1) := by kernel_rfl
@[go_sem] theorem t68_f6 : fieldT Tryz.prog 68 6 = some (8, 2) := by kernel_rfl
@[go_sem] theorem t68_f7 : fieldT Tryz.prog 68 7 = some (10, 1) := by kernel_rfl
@[go_sem] theorem t91_f0 : fieldT Tryz.prog 91 0 = some (0, 1) := by kernel_rfl
@[go_sem] theorem t91_f1 : fieldT Tryz.prog 91 1 = some (1, 1) := by kernel_rfl
@[go_sem] theorem t138_f0 : fieldT Tryz.prog 138 0 = some (0, 1) := by kernel_rfl
@[go_sem] theorem t138_f1 : fieldT Tryz.prog 138 1 = some (1, 1) := by kernel_rfl
@[go_sem] theorem t147_f0 : fieldT Tryz.prog 147 0 = some (0, 1) := by kernel_rfl
@[go_sem] theorem t147_f1 : fieldT Tryz.prog 147 1 = some (1, 1) := by kernel_rfl
@[go_sem] theorem t166_f0 : fieldT Tryz.prog 166 0 = some (0, 1) := by kernel_rfl
@[go_sem] theorem t166_f1 : fieldT Tryz.prog 166 1 = some (1, 1) := by kernel_rfl
@[go_sem] theorem t182_f0 : fieldT Tryz.prog 182 0 = some (0, 1) := by kernel_rfl
@[go_sem] theorem t182_f1 : fieldT Tryz.prog 182 1 = some (1, 1) := by kernel_rfl
@[go_sem] theorem t215_f0 : fieldT Tryz.prog 215 0 = some (0, 1) := by kernel_rfl
@[go_sem] theorem t215_f1 : fieldT Tryz.prog 215 1 = some (1, 1) := by kernel_rfl
@[go_sem] theorem t215_f2 : fieldT Tryz.prog 215 2 = some (2, 1) := by kernel_rfl
@[go_sem] theorem t217_f0 : fieldT Tryz.prog 217 0 = some (0, 1) := by kernel_rfl
@[go_sem] theorem t217_f1 : fieldT Tryz.prog 217 1 = some (1, 3) := by kernel_rfl
@[go_sem] theorem t217_f2 : fieldT Tryz.prog 217 2 = some (4, 1) := by kernel_rfl
@[go_sem] theorem t217_f3 : fieldT Tryz.prog 217 3 = some (5, 1) := by kernel_rfl
@[go_sem] theorem t217_f4 : fieldT Tryz.prog 217 4 = some (6, 1) := by kernel_rfl
@[go_sem] theorem t221_f0 : fieldT Tryz.prog 221 0 = some (0, 1) := by kernel_rfl
@[go_sem] theorem t221_f1 : fieldT Tryz.prog 221 1 = some (1, 1) := by kernel_rfl
@[go_sem] theorem t224_f0 : fieldT Tryz.prog 224 0 = some (0, 1) := by kernel_rfl
@[go_sem] theorem t224_f1 : fieldT Tryz.prog 224 1 = some (1, 1) := by kernel_rfl
@[go_sem] theorem t224_f2 : fieldT Tryz.prog 224 2 = some (2, 1) := by kernel_rfl
@[go_sem] theorem t224_f3 : fieldT Tryz.prog 224 3 = some (3, 1) := by kernel_rfl
@[go_sem] theorem t224_f4 : fieldT Tryz.prog 224 4 = some (4, 1) := by kernel_rfl
@[go_sem] theorem t234_f0 : fieldT Tryz.prog 234 0 = some (0, 1) := by kernel_rfl
@[go_sem] theorem t234_f1 : fieldT Tryz.prog 234 1 = some (1, 1) := by kernel_rfl
@[go_sem] theorem t234_f2 : fieldT Tryz.prog 234 2 = some (2, 1) := by kernel_rfl
@[go_sem] theorem t234_f3 : fieldT Tryz.prog 234 3 = some (3, 1) := by kernel_rfl
@[go_sem] theorem t234_f4 : fieldT Tryz.prog 234 4 = some (4, 1) := by kernel_rfl
@[go_sem] theorem t234_f5 : fieldT Tryz.prog 234 5 = some (5, 1) := by kernel_rfl
@[go_sem] theorem t296_f0 : fieldT Tryz.prog 296 0 = some (0, 1) := by kernel_rfl
@[go_sem] theorem t296_f1 : fieldT Tryz.prog 296 1 = some (1, 1) := by kernel_rfl
@[go_sem] theorem t296_f2 : fieldT Tryz.prog 296 2 = some (2, 1) := by kernel_rfl
@[go_sem] theorem t303_f0 : fieldT Tryz.prog 303 0 = some (0, 1) := by kernel_rfl
@[go_sem] theorem t9_st : strT Tryz.prog 9 = true := by kernel_rfl
@[go_sem] theorem t9_el : elemT Tryz.prog 9 = none := by kernel_rfl
@[go_sem] theorem t9_us : Tryz.prog.underlying 9 = some .string := by kernel_rfl
@[go_sem] theorem t22_el : elemT Tryz.prog 22 = some 3 := by kernel_rfl
@[go_sem] theorem t22_st : strT Tryz.prog 22 = false := by kernel_rfl
@[go_sem] theorem t26_el : elemT Tryz.prog 26 = some 37 := by kernel_rfl
@[go_sem] theorem t26_st : strT Tryz.prog 26 = false := by kernel_rfl
@[go_sem] theorem t43_el : elemT Tryz.prog 43 = some 91 := by kernel_rfl
@[go_sem] theorem t43_st : strT Tryz.prog 43 = false := by kernel_rfl
@[go_sem] theorem t46_el : elemT Tryz.prog 46 = some 33 := by kernel_rfl
@[go_sem] theorem t46_st : strT Tryz.prog 46 = false := by kernel_rfl
@[go_sem] theorem t49_el : elemT Tryz.prog 49 = some 57 := by kernel_rfl
@[go_sem] theorem t49_st : strT Tryz.prog 49 = false := by kernel_rfl
@[go_sem] theorem t62_el : elemT Tryz.prog 62 = some 68 := by kernel_rfl
@[go_sem] theorem t62_st : strT Tryz.prog 62 = false := by kernel_rfl
@[go_sem] theorem t78_el : elemT Tryz.prog 78 = some 4 := by kernel_rfl
@[go_sem] theorem t78_st : strT Tryz.prog 78 = false := by kernel_rfl
@[go_sem] theorem t86_el : elemT Tryz.prog 86 = some 9 := by kernel_rfl
@[go_sem] theorem t86_st : strT Tryz.prog 86 = false := by kernel_rfl
@[go_sem] theorem t88_el : elemT Tryz.prog 88 = some 147 := by kernel_rfl
@[go_sem] theorem t88_st : strT Tryz.prog 88 = false := by kernel_rfl
@[go_sem] theorem t104_el : elemT Tryz.prog 104 = some 29 := by kernel_rfl
@[go_sem] theorem t104_st : strT Tryz.prog 104 = false := by kernel_rfl
@[go_sem] theorem t107_el : elemT Tryz.prog 107 = some 5 := by kernel_rfl
@[go_sem] theorem t107_st : strT Tryz.prog 107 = false := by kernel_rfl
@[go_sem] theorem t114_el : elemT Tryz.prog 114 = some 234 := by kernel_rfl
@[go_sem] theorem t114_st : strT Tryz.prog 114 = false := by kernel_rfl
@[go_sem] theorem t139_el : elemT Tryz.prog 139 = some 26 := by kernel_rfl
@[go_sem] theorem t139_st : strT Tryz.prog 139 = false := by kernel_rfl
@[go_sem] theorem t160_el : elemT Tryz.prog 160 = some 221 := by kernel_rfl
@[go_sem] theorem t160_st : strT Tryz.prog 160 = false := by kernel_rfl
@[go_sem] theorem t177_el : elemT Tryz.prog 177 = some 62 := by kernel_rfl
@[go_sem] theorem t177_st : strT Tryz.prog 177 = false := by kernel_rfl
@[go_sem] theorem t211_el : elemT Tryz.prog 211 = some 46 := by kernel_rfl
@[go_sem] theorem t211_st : strT Tryz.prog 211 = false := by kernel_rfl
@[go_sem] theorem t222_el : elemT Tryz.prog 222 = some 161 := by kernel_rfl
@[go_sem] theorem t222_st : strT Tryz.prog 222 = false := by kernel_rfl
@[go_sem] theorem t2_un : (Tryz.prog.underlying 2).isSome = true := by kernel_rfl
@[go_sem] theorem t2_ik : intK Tryz.prog 2 = some .i64 := by kernel_rfl
@[go_sem] theorem t3_ik : intK Tryz.prog 3 = some .i64 := by kernel_rfl
@[go_sem] theorem t5_ik : intK Tryz.prog 5 = some .u8 := by kernel_rfl
@[go_sem] theorem t9_ik : intK Tryz.prog 9 = none := by kernel_rfl
@[go_sem] theorem t107_un : (Tryz.prog.underlying 107).isSome = true := by kernel_rfl
@[go_sem] theorem t107_ik : intK Tryz.prog 107 = none := by kernel_rfl
@[go_sem] theorem t154_un : (Tryz.prog.underlying 154).isSome = true := by kernel_rfl
@[go_sem] theorem t154_ik : intK Tryz.prog 154 = some .u64 := by kernel_rfl
@[go_sem] theorem t207_un : (Tryz.prog.underlying 207).isSome = true := by kernel_rfl
@[go_sem] theorem t207_ik : intK Tryz.prog 207 = some .u32 := by kernel_rfl
@[go_sem] theorem t209_ik : intK Tryz.prog 209 = some .u64 := by kernel_rfl
@[go_sem] theorem t243_ik : intK Tryz.prog 243 = some .u64 := by kernel_rfl
@[go_sem] theorem t2_bt : bytesT Tryz.prog 2 = false := by kernel_rfl
@[go_sem] theorem t3_bt : bytesT Tryz.prog 3 = false := by kernel_rfl
@[go_sem] theorem t5_bt : bytesT Tryz.prog 5 = false := by kernel_rfl
@[go_sem] theorem t9_bt : bytesT Tryz.prog 9 = false := by kernel_rfl
@[go_sem] theorem t107_bt : bytesT Tryz.prog 107 = true := by kernel_rfl
@[go_sem] theorem t154_bt : bytesT Tryz.prog 154 = false := by kernel_rfl
@[go_sem] theorem t207_bt : bytesT Tryz.prog 207 = false := by kernel_rfl
@[go_sem] theorem t209_bt : bytesT Tryz.prog 209 = false := by kernel_rfl
@[go_sem] theorem t243_bt : bytesT Tryz.prog 243 = false := by kernel_rfl
@[go_sem] theorem t9_co : conT Tryz.prog 9 = true := by kernel_rfl
@[go_sem] theorem t286_co : conT Tryz.prog 286 = true := by kernel_rfl
@[go_sem] theorem t289_co : conT Tryz.prog 289 = true := by kernel_rfl
@[go_sem] theorem t301_co : conT Tryz.prog 301 = true := by kernel_rfl
@[go_sem] theorem t166_k1 : fieldK Tryz.prog 166 1 = some (1, 1, false) := by kernel_rfl
@[go_sem] theorem t33_fk : fieldsK Tryz.prog 33 = some [(0, 1), (1, 1), (2, 1)] := by kernel_rfl
@[go_sem] theorem t35_fk : fieldsK Tryz.prog 35 = some [(0, 1), (1, 3), (2, 1), (3, 1), (4, 1)] := by kernel_rfl
@[go_sem] theorem t37_fk : fieldsK Tryz.prog 37 = some [(0, 3), (1, 1), (2, 1), (3, 3), (4, 1), (5, 1), (6, 1)] := by kernel_rfl
@[go_sem] theorem t57_fk : fieldsK Tryz.prog 57 = some [(0, 1), (1, 1)] := by kernel_rfl
@[go_sem] theorem t68_fk : fieldsK Tryz.prog 68 = some [(0, 3), (1, 1), (2, 1), (3, 1), (4, 1), (5, 1), (6, 1), (7, 1), (8, 1), (9, 1), (10, 1)] := by kernel_rfl
@[go_sem] theorem t276_kd : kindT Tryz.prog 276 = 6 := by kernel_rfl
@[go_sem] theorem f2_en : entersB Tryz.prog 2 = true := by kernel_rfl
@[go_sem] theorem f2_rs : Tryz.f2.results.toList = [] := by kernel_rfl
@[go_sem] theorem f2_nt : Tryz.f2.ntmps = 1 := by kernel_rfl
@[go_sem] theorem f3_en : entersB Tryz.prog 3 = true := by kernel_rfl
@[go_sem] theorem f3_rs : Tryz.f3.results.toList = [.tmp 2] := by kernel_rfl
@[go_sem] theorem f3_nt : Tryz.f3.ntmps = 140 := by kernel_rfl
@[go_sem] theorem f4_en : entersB Tryz.prog 4 = true := by kernel_rfl
@[go_sem] theorem f4_rs : Tryz.f4.results.toList = [.tmp 2] := by kernel_rfl
@[go_sem] theorem f4_nt : Tryz.f4.ntmps = 137 := by kernel_rfl
@[go_sem] theorem f5_en : entersB Tryz.prog 5 = true := by kernel_rfl
@[go_sem] theorem f5_rs : Tryz.f5.results.toList = [.tmp 4] := by kernel_rfl
@[go_sem] theorem f5_nt : Tryz.f5.ntmps = 16 := by kernel_rfl
@[go_sem] theorem f6_en : entersB Tryz.prog 6 = true := by kernel_rfl
@[go_sem] theorem f6_rs : Tryz.f6.results.toList = [.tmp 6] := by kernel_rfl
@[go_sem] theorem f6_nt : Tryz.f6.ntmps = 19 := by kernel_rfl
@[go_sem] theorem f7_en : entersB Tryz.prog 7 = true := by kernel_rfl
@[go_sem] theorem f7_rs : Tryz.f7.results.toList = [.tmp 2, .tmp 3] := by kernel_rfl
@[go_sem] theorem f7_nt : Tryz.f7.ntmps = 29 := by kernel_rfl
@[go_sem] theorem f8_en : entersB Tryz.prog 8 = true := by kernel_rfl
@[go_sem] theorem f8_rs : Tryz.f8.results.toList = [.tmp 4] := by kernel_rfl
@[go_sem] theorem f8_nt : Tryz.f8.ntmps = 9 := by kernel_rfl
@[go_sem] theorem f9_en : entersB Tryz.prog 9 = true := by kernel_rfl
@[go_sem] theorem f9_rs : Tryz.f9.results.toList = [.tmp 4, .tmp 5] := by kernel_rfl
@[go_sem] theorem f9_nt : Tryz.f9.ntmps = 41 := by kernel_rfl
@[go_sem] theorem f10_en : entersB Tryz.prog 10 = true := by kernel_rfl
@[go_sem] theorem f10_rs : Tryz.f10.results.toList = [.tmp 4, .tmp 5] := by kernel_rfl
@[go_sem] theorem f10_nt : Tryz.f10.ntmps = 37 := by kernel_rfl
@[go_sem] theorem f11_en : entersB Tryz.prog 11 = true := by kernel_rfl
@[go_sem] theorem f11_rs : Tryz.f11.results.toList = [.tmp 2] := by kernel_rfl
@[go_sem] theorem f11_nt : Tryz.f11.ntmps = 36 := by kernel_rfl
@[go_sem] theorem f12_en : entersB Tryz.prog 12 = true := by kernel_rfl
@[go_sem] theorem f12_rs : Tryz.f12.results.toList = [.tmp 2] := by kernel_rfl
@[go_sem] theorem f12_nt : Tryz.f12.ntmps = 33 := by kernel_rfl
@[go_sem] theorem f13_en : entersB Tryz.prog 13 = true := by kernel_rfl
@[go_sem] theorem f13_rs : Tryz.f13.results.toList = [.tmp 6, .tmp 7, .tmp 8] := by kernel_rfl
@[go_sem] theorem f13_nt : Tryz.f13.ntmps = 98 := by kernel_rfl
@[go_sem] theorem f14_en : entersB Tryz.prog 14 = true := by kernel_rfl
@[go_sem] theorem f14_rs : Tryz.f14.results.toList = [.tmp 4, .tmp 5] := by kernel_rfl
@[go_sem] theorem f14_nt : Tryz.f14.ntmps = 38 := by kernel_rfl
@[go_sem] theorem f15_en : entersB Tryz.prog 15 = true := by kernel_rfl
@[go_sem] theorem f15_rs : Tryz.f15.results.toList = [.tmp 2] := by kernel_rfl
@[go_sem] theorem f15_nt : Tryz.f15.ntmps = 15 := by kernel_rfl
@[go_sem] theorem f16_en : entersB Tryz.prog 16 = true := by kernel_rfl
@[go_sem] theorem f16_rs : Tryz.f16.results.toList = [.tmp 4] := by kernel_rfl
@[go_sem] theorem f16_nt : Tryz.f16.ntmps = 26 := by kernel_rfl
@[go_sem] theorem f17_en : entersB Tryz.prog 17 = true := by kernel_rfl
@[go_sem] theorem f17_rs : Tryz.f17.results.toList = [.tmp 4] := by kernel_rfl
@[go_sem] theorem f17_nt : Tryz.f17.ntmps = 26 := by kernel_rfl
@[go_sem] theorem f18_en : entersB Tryz.prog 18 = true := by kernel_rfl
@[go_sem] theorem f18_rs : Tryz.f18.results.toList = [.tmp 4] := by kernel_rfl
@[go_sem] theorem f18_nt : Tryz.f18.ntmps = 26 := by kernel_rfl
@[go_sem] theorem f19_en : entersB Tryz.prog 19 = true := by kernel_rfl
@[go_sem] theorem f19_rs : Tryz.f19.results.toList = [.tmp 2] := by kernel_rfl
@[go_sem] theorem f19_nt : Tryz.f19.ntmps = 35 := by kernel_rfl
@[go_sem] theorem f20_en : entersB Tryz.prog 20 = true := by kernel_rfl
@[go_sem] theorem f20_rs : Tryz.f20.results.toList = [.tmp 0] := by kernel_rfl
@[go_sem] theorem f20_nt : Tryz.f20.ntmps = 72 := by kernel_rfl
@[go_sem] theorem f21_en : entersB Tryz.prog 21 = true := by kernel_rfl
@[go_sem] theorem f21_rs : Tryz.f21.results.toList = [.tmp 4] := by kernel_rfl
@[go_sem] theorem f21_nt : Tryz.f21.ntmps = 39 := by kernel_rfl
@[go_sem] theorem f22_en : entersB Tryz.prog 22 = true := by kernel_rfl
@[go_sem] theorem f22_rs : Tryz.f22.results.toList = [.tmp 4] := by kernel_rfl
@[go_sem] theorem f22_nt : Tryz.f22.ntmps = 16 := by kernel_rfl
@[go_sem] theorem f23_en : entersB Tryz.prog 23 = true := by kernel_rfl
@[go_sem] theorem f23_rs : Tryz.f23.results.toList = [.tmp 4, .tmp 5] := by kernel_rfl
@[go_sem] theorem f23_nt : Tryz.f23.ntmps = 41 := by kernel_rfl
@[go_sem] theorem f24_en : entersB Tryz.prog 24 = true := by kernel_rfl
@[go_sem] theorem f24_rs : Tryz.f24.results.toList = [.tmp 4, .tmp 5] := by kernel_rfl
@[go_sem] theorem f24_nt : Tryz.f24.ntmps = 33 := by kernel_rfl
@[go_sem] theorem f25_en : entersB Tryz.prog 25 = true := by kernel_rfl
@[go_sem] theorem f25_rs : Tryz.f25.results.toList = [.tmp 6, .tmp 7] := by kernel_rfl
@[go_sem] theorem f25_nt : Tryz.f25.ntmps = 28 := by kernel_rfl
@[go_sem] theorem f26_en : entersB Tryz.prog 26 = true := by kernel_rfl
@[go_sem] theorem f26_rs : Tryz.f26.results.toList = [.tmp 4, .tmp 5] := by kernel_rfl
@[go_sem] theorem f26_nt : Tryz.f26.ntmps = 56 := by kernel_rfl
@[go_sem] theorem f27_en : entersB Tryz.prog 27 = true := by kernel_rfl
@[go_sem] theorem f27_rs : Tryz.f27.results.toList = [.tmp 8, .tmp 9] := by kernel_rfl
@[go_sem] theorem f27_nt : Tryz.f27.ntmps = 48 := by kernel_rfl
@[go_sem] theorem f28_en : entersB Tryz.prog 28 = true := by kernel_rfl
@[go_sem] theorem f28_rs : Tryz.f28.results.toList = [.tmp 4] := by kernel_rfl
@[go_sem] theorem f28_nt : Tryz.f28.ntmps = 26 := by kernel_rfl
@[go_sem] theorem f29_en : entersB Tryz.prog 29 = true := by kernel_rfl
@[go_sem] theorem f29_rs : Tryz.f29.results.toList = [.tmp 4] := by kernel_rfl
@[go_sem] theorem f29_nt : Tryz.f29.ntmps = 87 := by kernel_rfl
@[go_sem] theorem f30_en : entersB Tryz.prog 30 = true := by kernel_rfl
@[go_sem] theorem f30_rs : Tryz.f30.results.toList = [.tmp 2] := by kernel_rfl
@[go_sem] theorem f30_nt : Tryz.f30.ntmps = 67 := by kernel_rfl
@[go_sem] theorem f31_en : entersB Tryz.prog 31 = true := by kernel_rfl
@[go_sem] theorem f31_rs : Tryz.f31.results.toList = [.tmp 4] := by kernel_rfl
@[go_sem] theorem f31_nt : Tryz.f31.ntmps = 64 := by kernel_rfl
@[go_sem] theorem f32_en : entersB Tryz.prog 32 = true := by kernel_rfl
@[go_sem] theorem f32_rs : Tryz.f32.results.toList = [.tmp 2] := by kernel_rfl
@[go_sem] theorem f32_nt : Tryz.f32.ntmps = 40 := by kernel_rfl
@[go_sem] theorem f33_en : entersB Tryz.prog 33 = true := by kernel_rfl
@[go_sem] theorem f33_rs : Tryz.f33.results.toList = [.tmp 2] := by kernel_rfl
@[go_sem] theorem f33_nt : Tryz.f33.ntmps = 36 := by kernel_rfl
@[go_sem] theorem f34_en : entersB Tryz.prog 34 = true := by kernel_rfl
@[go_sem] theorem f34_rs : Tryz.f34.results.toList = [.tmp 4] := by kernel_rfl
@[go_sem] theorem f34_nt : Tryz.f34.ntmps = 19 := by kernel_rfl
@[go_sem] theorem f35_en : entersB Tryz.prog 35 = true := by kernel_rfl
@[go_sem] theorem f35_rs : Tryz.f35.results.toList = [.tmp 2] := by kernel_rfl
@[go_sem] theorem f35_nt : Tryz.f35.ntmps = 15 := by kernel_rfl
@[go_sem] theorem f36_en : entersB Tryz.prog 36 = true := by kernel_rfl
@[go_sem] theorem f36_rs : Tryz.f36.results.toList = [.tmp 2] := by kernel_rfl
@[go_sem] theorem f36_nt : Tryz.f36.ntmps = 36 := by kernel_rfl
@[go_sem] theorem f37_en : entersB Tryz.prog 37 = true := by kernel_rfl
@[go_sem] theorem f37_rs : Tryz.f37.results.toList = [] := by kernel_rfl
@[go_sem] theorem f37_nt : Tryz.f37.ntmps = 9 := by kernel_rfl
@[go_sem] theorem f38_en : entersB Tryz.prog 38 = true := by kernel_rfl
@[go_sem] theorem f38_rs : Tryz.f38.results.toList = [.tmp 4] := by kernel_rfl
@[go_sem] theorem f38_nt : Tryz.f38.ntmps = 24 := by kernel_rfl
@[go_sem] theorem f39_en : entersB Tryz.prog 39 = true := by kernel_rfl
@[go_sem] theorem f39_rs : Tryz.f39.results.toList = [.tmp 2] := by kernel_rfl
@[go_sem] theorem f39_nt : Tryz.f39.ntmps = 61 := by kernel_rfl
@[go_sem] theorem f40_en : entersB Tryz.prog 40 = true := by kernel_rfl
@[go_sem] theorem f40_rs : Tryz.f40.results.toList = [.tmp 2] := by kernel_rfl
@[go_sem] theorem f40_nt : Tryz.f40.ntmps = 40 := by kernel_rfl
@[go_sem] theorem f41_en : entersB Tryz.prog 41 = true := by kernel_rfl
@[go_sem] theorem f41_rs : Tryz.f41.results.toList = [.tmp 2] := by kernel_rfl
@[go_sem] theorem f41_nt : Tryz.f41.ntmps = 20 := by kernel_rfl
@[go_sem] theorem f42_en : entersB Tryz.prog 42 = true := by kernel_rfl
@[go_sem] theorem f42_rs : Tryz.f42.results.toList = [.tmp 4] := by kernel_rfl
@[go_sem] theorem f42_nt : Tryz.f42.ntmps = 9 := by kernel_rfl
@[go_sem] theorem f43_en : entersB Tryz.prog 43 = true := by kernel_rfl
@[go_sem] theorem f43_rs : Tryz.f43.results.toList = [.tmp 2] := by kernel_rfl
@[go_sem] theorem f43_nt : Tryz.f43.ntmps = 56 := by kernel_rfl
@[go_sem] theorem f44_en : entersB Tryz.prog 44 = true := by kernel_rfl
@[go_sem] theorem f44_rs : Tryz.f44.results.toList = [.tmp 4] := by kernel_rfl
@[go_sem] theorem f44_nt : Tryz.f44.ntmps = 12 := by kernel_rfl
@[go_sem] theorem f45_en : entersB Tryz.prog 45 = true := by kernel_rfl
@[go_sem] theorem f45_rs : Tryz.f45.results.toList = [.tmp 2] := by kernel_rfl
@[go_sem] theorem f45_nt : Tryz.f45.ntmps = 15 := by kernel_rfl
@[go_sem] theorem f46_en : entersB Tryz.prog 46 = true := by kernel_rfl
@[go_sem] theorem f46_rs : Tryz.f46.results.toList = [.tmp 2] := by kernel_rfl
@[go_sem] theorem f46_nt : Tryz.f46.ntmps = 66 := by kernel_rfl
@[go_sem] theorem f47_en : entersB Tryz.prog 47 = true := by kernel_rfl
@[go_sem] theorem f47_rs : Tryz.f47.results.toList = [.tmp 2] := by kernel_rfl
@[go_sem] theorem f47_nt : Tryz.f47.ntmps = 42 := by kernel_rfl
@[go_sem] theorem f48_en : entersB Tryz.prog 48 = true := by kernel_rfl
@[go_sem] theorem f48_rs : Tryz.f48.results.toList = [.tmp 2] := by kernel_rfl
@[go_sem] theorem f48_nt : Tryz.f48.ntmps = 54 := by kernel_rfl
@[go_sem] theorem f49_en : entersB Tryz.prog 49 = true := by kernel_rfl
@[go_sem] theorem f49_rs : Tryz.f49.results.toList = [.tmp 4] := by kernel_rfl
@[go_sem] theorem f49_nt : Tryz.f49.ntmps = 97 := by kernel_rfl
@[go_sem] theorem f50_en : entersB Tryz.prog 50 = true := by kernel_rfl
@[go_sem] theorem f50_rs : Tryz.f50.results.toList = [] := by kernel_rfl
@[go_sem] theorem f50_nt : Tryz.f50.ntmps = 14 := by kernel_rfl
@[go_sem] theorem f51_en : entersB Tryz.prog 51 = true := by kernel_rfl
@[go_sem] theorem f51_rs : Tryz.f51.results.toList = [.tmp 4] := by kernel_rfl
@[go_sem] theorem f51_nt : Tryz.f51.ntmps = 10 := by kernel_rfl
@[go_sem] theorem f52_en : entersB Tryz.prog 52 = true := by kernel_rfl
@[go_sem] theorem f52_rs : Tryz.f52.results.toList = [.tmp 4] := by kernel_rfl
@[go_sem] theorem f52_nt : Tryz.f52.ntmps = 20 := by kernel_rfl
@[go_sem] theorem f53_en : entersB Tryz.prog 53 = true := by kernel_rfl
@[go_sem] theorem f53_rs : Tryz.f53.results.toList = [.tmp 4] := by kernel_rfl
@[go_sem] theorem f53_nt : Tryz.f53.ntmps = 16 := by kernel_rfl
@[go_sem] theorem f54_en : entersB Tryz.prog 54 = true := by kernel_rfl
@[go_sem] theorem f54_rs : Tryz.f54.results.toList = [.tmp 4, .tmp 5] := by kernel_rfl
@[go_sem] theorem f54_nt : Tryz.f54.ntmps = 33 := by kernel_rfl
@[go_sem] theorem f55_en : entersB Tryz.prog 55 = true := by kernel_rfl
@[go_sem] theorem f55_rs : Tryz.f55.results.toList = [.tmp 2] := by kernel_rfl
@[go_sem] theorem f55_nt : Tryz.f55.ntmps = 46 := by kernel_rfl
@[go_sem] theorem f56_en : entersB Tryz.prog 56 = true := by kernel_rfl
@[go_sem] theorem f56_rs : Tryz.f56.results.toList = [.tmp 2] := by kernel_rfl
@[go_sem] theorem f56_nt : Tryz.f56.ntmps = 25 := by kernel_rfl
@[go_sem] theorem f57_en : entersB Tryz.prog 57 = true := by kernel_rfl
@[go_sem] theorem f57_rs : Tryz.f57.results.toList = [.tmp 4, .tmp 5] := by kernel_rfl
@[go_sem] theorem f57_nt : Tryz.f57.ntmps = 29 := by kernel_rfl
@[go_sem] theorem f58_en : entersB Tryz.prog 58 = true := by kernel_rfl
@[go_sem] theorem f58_rs : Tryz.f58.results.toList = [.tmp 2, .tmp 3] := by kernel_rfl
@[go_sem] theorem f58_nt : Tryz.f58.ntmps = 8 := by kernel_rfl
@[go_sem] theorem f59_en : entersB Tryz.prog 59 = true := by kernel_rfl
@[go_sem] theorem f59_rs : Tryz.f59.results.toList = [.cell 6 33, .tmp 7] := by kernel_rfl
@[go_sem] theorem f59_nt : Tryz.f59.ntmps = 39 := by kernel_rfl
@[go_sem] theorem f60_en : entersB Tryz.prog 60 = true := by kernel_rfl
@[go_sem] theorem f60_rs : Tryz.f60.results.toList = [.tmp 4, .tmp 5] := by kernel_rfl
@[go_sem] theorem f60_nt : Tryz.f60.ntmps = 29 := by kernel_rfl
@[go_sem] theorem f61_en : entersB Tryz.prog 61 = true := by kernel_rfl
@[go_sem] theorem f61_rs : Tryz.f61.results.toList = [.tmp 4, .tmp 5] := by kernel_rfl
@[go_sem] theorem f61_nt : Tryz.f61.ntmps = 18 := by kernel_rfl
@[go_sem] theorem f62_en : entersB Tryz.prog 62 = true := by kernel_rfl
@[go_sem] theorem f62_rs : Tryz.f62.results.toList = [.tmp 4] := by kernel_rfl
@[go_sem] theorem f62_nt : Tryz.f62.ntmps = 12 := by kernel_rfl
@[go_sem] theorem f63_en : entersB Tryz.prog 63 = true := by kernel_rfl
@[go_sem] theorem f63_rs : Tryz.f63.results.toList = [.tmp 4] := by kernel_rfl
@[go_sem] theorem f63_nt : Tryz.f63.ntmps = 113 := by kernel_rfl
@[go_sem] theorem f64_en : entersB Tryz.prog 64 = true := by kernel_rfl
@[go_sem] theorem f64_rs : Tryz.f64.results.toList = [.tmp 2] := by kernel_rfl
@[go_sem] theorem f64_nt : Tryz.f64.ntmps = 49 := by kernel_rfl
@[go_sem] theorem f65_en : entersB Tryz.prog 65 = true := by kernel_rfl
@[go_sem] theorem f65_rs : Tryz.f65.results.toList = [.tmp 2] := by kernel_rfl
@[go_sem] theorem f65_nt : Tryz.f65.ntmps = 36 := by kernel_rfl
@[go_sem] theorem f66_en : entersB Tryz.prog 66 = true := by kernel_rfl
@[go_sem] theorem f66_rs : Tryz.f66.results.toList = [.tmp 2] := by kernel_rfl
@[go_sem] theorem f66_nt : Tryz.f66.ntmps = 36 := by kernel_rfl
@[go_sem] theorem f67_en : entersB Tryz.prog 67 = true := by kernel_rfl
@[go_sem] theorem f67_rs : Tryz.f67.results.toList = [] := by kernel_rfl
@[go_sem] theorem f67_nt : Tryz.f67.ntmps = 9 := by kernel_rfl
@[go_sem] theorem f68_en : entersB Tryz.prog 68 = true := by kernel_rfl
@[go_sem] theorem f68_rs : Tryz.f68.results.toList = [.tmp 4] := by kernel_rfl
@[go_sem] theorem f68_nt : Tryz.f68.ntmps = 22 := by kernel_rfl
@[go_sem] theorem f69_en : entersB Tryz.prog 69 = true := by kernel_rfl
@[go_sem] theorem f69_rs : Tryz.f69.results.toList = [.tmp 2] := by kernel_rfl
@[go_sem] theorem f69_nt : Tryz.f69.ntmps = 61 := by kernel_rfl
@[go_sem] theorem f70_en : entersB Tryz.prog 70 = true := by kernel_rfl
@[go_sem] theorem f70_rs : Tryz.f70.results.toList = [.tmp 2] := by kernel_rfl
@[go_sem] theorem f70_nt : Tryz.f70.ntmps = 25 := by kernel_rfl
@[go_sem] theorem f71_en : entersB Tryz.prog 71 = true := by kernel_rfl
@[go_sem] theorem f71_rs : Tryz.f71.results.toList = [.tmp 4] := by kernel_rfl
@[go_sem] theorem f71_nt : Tryz.f71.ntmps = 11 := by kernel_rfl
@[go_sem] theorem f72_en : entersB Tryz.prog 72 = true := by kernel_rfl
@[go_sem] theorem f72_rs : Tryz.f72.results.toList = [.tmp 2] := by kernel_rfl
@[go_sem] theorem f72_nt : Tryz.f72.ntmps = 6 := by kernel_rfl
@[go_sem] theorem f73_en : entersB Tryz.prog 73 = true := by kernel_rfl
@[go_sem] theorem f73_rs : Tryz.f73.results.toList = [.tmp 2] := by kernel_rfl
@[go_sem] theorem f73_nt : Tryz.f73.ntmps = 22 := by kernel_rfl
@[go_sem] theorem f74_en : entersB Tryz.prog 74 = true := by kernel_rfl
@[go_sem] theorem f74_rs : Tryz.f74.results.toList = [.tmp 6] := by kernel_rfl
@[go_sem] theorem f74_nt : Tryz.f74.ntmps = 56 := by kernel_rfl
@[go_sem] theorem f75_en : entersB Tryz.prog 75 = true := by kernel_rfl
@[go_sem] theorem f75_rs : Tryz.f75.results.toList = [.tmp 4] := by kernel_rfl
@[go_sem] theorem f75_nt : Tryz.f75.ntmps = 66 := by kernel_rfl
@[go_sem] theorem f76_en : entersB Tryz.prog 76 = true := by kernel_rfl
@[go_sem] theorem f76_rs : Tryz.f76.results.toList = [.tmp 4] := by kernel_rfl
@[go_sem] theorem f76_nt : Tryz.f76.ntmps = 73 := by kernel_rfl
@[go_sem] theorem f77_en : entersB Tryz.prog 77 = true := by kernel_rfl
@[go_sem] theorem f77_rs : Tryz.f77.results.toList = [.tmp 6] := by kernel_rfl
@[go_sem] theorem f77_nt : Tryz.f77.ntmps = 22 := by kernel_rfl
@[go_sem] theorem f78_en : entersB Tryz.prog 78 = true := by kernel_rfl
@[go_sem] theorem f78_rs : Tryz.f78.results.toList = [.cell 2 33] := by kernel_rfl
@[go_sem] theorem f78_nt : Tryz.f78.ntmps = 13 := by kernel_rfl
@[go_sem] theorem f79_en : entersB Tryz.prog 79 = true := by kernel_rfl
@[go_sem] theorem f79_rs : Tryz.f79.results.toList = [.tmp 4] := by kernel_rfl
@[go_sem] theorem f79_nt : Tryz.f79.ntmps = 36 := by kernel_rfl
@[go_sem] theorem f80_en : entersB Tryz.prog 80 = true := by kernel_rfl
@[go_sem] theorem f80_rs : Tryz.f80.results.toList = [.tmp 4] := by kernel_rfl
@[go_sem] theorem f80_nt : Tryz.f80.ntmps = 66 := by kernel_rfl
@[go_sem] theorem f81_en : entersB Tryz.prog 81 = true := by kernel_rfl
@[go_sem] theorem f81_rs : Tryz.f81.results.toList = [.tmp 4] := by kernel_rfl
@[go_sem] theorem f81_nt : Tryz.f81.ntmps = 9 := by kernel_rfl
@[go_sem] theorem f82_en : entersB Tryz.prog 82 = true := by kernel_rfl
@[go_sem] theorem f82_rs : Tryz.f82.results.toList = [.tmp 2] := by kernel_rfl
@[go_sem] theorem f82_nt : Tryz.f82.ntmps = 5 := by kernel_rfl
@[go_sem] theorem f83_en : entersB Tryz.prog 83 = true := by kernel_rfl
@[go_sem] theorem f83_rs : Tryz.f83.results.toList = [.tmp 6] := by kernel_rfl
@[go_sem] theorem f83_nt : Tryz.f83.ntmps = 15 := by kernel_rfl
@[go_sem] theorem f84_en : entersB Tryz.prog 84 = true := by kernel_rfl
@[go_sem] theorem f84_rs : Tryz.f84.results.toList = [.tmp 2] := by kernel_rfl
@[go_sem] theorem f84_nt : Tryz.f84.ntmps = 27 := by kernel_rfl
@[go_sem] theorem f85_en : entersB Tryz.prog 85 = true := by kernel_rfl
@[go_sem] theorem f85_rs : Tryz.f85.results.toList = [.tmp 2] := by kernel_rfl
@[go_sem] theorem f85_nt : Tryz.f85.ntmps = 22 := by kernel_rfl
@[go_sem] theorem f86_en : entersB Tryz.prog 86 = true := by kernel_rfl
@[go_sem] theorem f86_rs : Tryz.f86.results.toList = [.tmp 2] := by kernel_rfl
@[go_sem] theorem f86_nt : Tryz.f86.ntmps = 18 := by kernel_rfl
@[go_sem] theorem f87_en : entersB Tryz.prog 87 = true := by kernel_rfl
@[go_sem] theorem f87_rs : Tryz.f87.results.toList = [.tmp 4] := by kernel_rfl
@[go_sem] theorem f87_nt : Tryz.f87.ntmps = 16 := by kernel_rfl
@[go_sem] theorem f88_en : entersB Tryz.prog 88 = true := by kernel_rfl
@[go_sem] theorem f88_rs : Tryz.f88.results.toList = [.tmp 2] := by kernel_rfl
@[go_sem] theorem f88_nt : Tryz.f88.ntmps = 29 := by kernel_rfl
@[go_sem] theorem f89_en : entersB Tryz.prog 89 = true := by kernel_rfl
@[go_sem] theorem f89_rs : Tryz.f89.results.toList = [.tmp 4] := by kernel_rfl
@[go_sem] theorem f89_nt : Tryz.f89.ntmps = 27 := by kernel_rfl
@[go_sem] theorem f90_en : entersB Tryz.prog 90 = true := by kernel_rfl
@[go_sem] theorem f90_rs : Tryz.f90.results.toList = [] := by kernel_rfl
@[go_sem] theorem f90_nt : Tryz.f90.ntmps = 63 := by kernel_rfl
@[go_sem] theorem f91_en : entersB Tryz.prog 91 = true := by kernel_rfl
@[go_sem] theorem f91_rs : Tryz.f91.results.toList = [.tmp 2] := by kernel_rfl
@[go_sem] theorem f91_nt : Tryz.f91.ntmps = 18 := by kernel_rfl
@[go_sem] theorem f92_en : entersB Tryz.prog 92 = true := by kernel_rfl
@[go_sem] theorem f92_rs : Tryz.f92.results.toList = [.tmp 4] := by kernel_rfl
@[go_sem] theorem f92_nt : Tryz.f92.ntmps = 8 := by kernel_rfl
@[go_sem] theorem f93_en : entersB Tryz.prog 93 = true := by kernel_rfl
@[go_sem] theorem f93_rs : Tryz.f93.results.toList = [.tmp 4] := by kernel_rfl
@[go_sem] theorem f93_nt : Tryz.f93.ntmps = 18 := by kernel_rfl
@[go_sem] theorem f94_en : entersB Tryz.prog 94 = true := by kernel_rfl
@[go_sem] theorem f94_rs : Tryz.f94.results.toList = [.tmp 2] := by kernel_rfl
@[go_sem] theorem f94_nt : Tryz.f94.ntmps = 65 := by kernel_rfl
@[go_sem] theorem f95_en : entersB Tryz.prog 95 = true := by kernel_rfl
@[go_sem] theorem f95_rs : Tryz.f95.results.toList = [.tmp 6, .tmp 7] := by kernel_rfl
@[go_sem] theorem f95_nt : Tryz.f95.ntmps = 49 := by kernel_rfl
@[go_sem] theorem f96_en : entersB Tryz.prog 96 = true := by kernel_rfl
@[go_sem] theorem f96_rs : Tryz.f96.results.toList = [.tmp 4] := by kernel_rfl
@[go_sem] theorem f96_nt : Tryz.f96.ntmps = 9 := by kernel_rfl
@[go_sem] theorem f97_en : entersB Tryz.prog 97 = true := by kernel_rfl
@[go_sem] theorem f97_rs : Tryz.f97.results.toList = [.tmp 4] := by kernel_rfl
@[go_sem] theorem f97_nt : Tryz.f97.ntmps = 16 := by kernel_rfl
@[go_sem] theorem f98_en : entersB Tryz.prog 98 = true := by kernel_rfl
@[go_sem] theorem f98_rs : Tryz.f98.results.toList = [] := by kernel_rfl
@[go_sem] theorem f98_nt : Tryz.f98.ntmps = 148 := by kernel_rfl
@[go_sem] theorem f99_en : entersB Tryz.prog 99 = true := by kernel_rfl
@[go_sem] theorem f99_rs : Tryz.f99.results.toList = [.tmp 2] := by kernel_rfl
@[go_sem] theorem f99_nt : Tryz.f99.ntmps = 8 := by kernel_rfl
@[go_sem] theorem f100_en : entersB Tryz.prog 100 = true := by kernel_rfl
@[go_sem] theorem f100_rs : Tryz.f100.results.toList = [.tmp 2] := by kernel_rfl
@[go_sem] theorem f100_nt : Tryz.f100.ntmps = 6 := by kernel_rfl
@[go_sem] theorem f101_en : entersB Tryz.prog 101 = true := by kernel_rfl
@[go_sem] theorem f101_rs : Tryz.f101.results.toList = [] := by kernel_rfl
@[go_sem] theorem f101_nt : Tryz.f101.ntmps = 11 := by kernel_rfl
@[go_sem] theorem f102_en : entersB Tryz.prog 102 = true := by kernel_rfl
@[go_sem] theorem f102_rs : Tryz.f102.results.toList = [.tmp 6] := by kernel_rfl
@[go_sem] theorem f102_nt : Tryz.f102.ntmps = 15 := by kernel_rfl
@[go_sem] theorem f103_en : entersB Tryz.prog 103 = true := by kernel_rfl
@[go_sem] theorem f103_rs : Tryz.f103.results.toList = [.tmp 2] := by kernel_rfl
@[go_sem] theorem f103_nt : Tryz.f103.ntmps = 36 := by kernel_rfl
@[go_sem] theorem f104_en : entersB Tryz.prog 104 = true := by kernel_rfl
@[go_sem] theorem f104_rs : Tryz.f104.results.toList = [.tmp 4] := by kernel_rfl
@[go_sem] theorem f104_nt : Tryz.f104.ntmps = 22 := by kernel_rfl
@[go_sem] theorem f105_en : entersB Tryz.prog 105 = true := by kernel_rfl
@[go_sem] theorem f105_rs : Tryz.f105.results.toList = [.tmp 4] := by kernel_rfl
@[go_sem] theorem f105_nt : Tryz.f105.ntmps = 66 := by kernel_rfl
@[go_sem] theorem f106_en : entersB Tryz.prog 106 = true := by kernel_rfl
@[go_sem] theorem f106_rs : Tryz.f106.results.toList = [.tmp 4] := by kernel_rfl
@[go_sem] theorem f106_nt : Tryz.f106.ntmps = 10 := by kernel_rfl
@[go_sem] theorem f107_en : entersB Tryz.prog 107 = true := by kernel_rfl
@[go_sem] theorem f107_rs : Tryz.f107.results.toList = [.tmp 2] := by kernel_rfl
@[go_sem] theorem f107_nt : Tryz.f107.ntmps = 28 := by kernel_rfl
@[go_sem] theorem f108_en : entersB Tryz.prog 108 = true := by kernel_rfl
@[go_sem] theorem f108_rs : Tryz.f108.results.toList = [.tmp 2, .tmp 3, .tmp 4] := by kernel_rfl
@[go_sem] theorem f108_nt : Tryz.f108.ntmps = 56 := by kernel_rfl
@[go_sem] theorem f109_en : entersB Tryz.prog 109 = true := by kernel_rfl
@[go_sem] theorem f109_rs : Tryz.f109.results.toList = [.tmp 2] := by kernel_rfl
@[go_sem] theorem f109_nt : Tryz.f109.ntmps = 42 := by kernel_rfl
@[go_sem] theorem f110_en : entersB Tryz.prog 110 = true := by kernel_rfl
@[go_sem] theorem f110_rs : Tryz.f110.results.toList = [.cell 6 166] := by kernel_rfl
@[go_sem] theorem f110_nt : Tryz.f110.ntmps = 107 := by kernel_rfl
@[go_sem] theorem f111_en : entersB Tryz.prog 111 = true := by kernel_rfl
@[go_sem] theorem f111_rs : Tryz.f111.results.toList = [.tmp 2] := by kernel_rfl
@[go_sem] theorem f111_nt : Tryz.f111.ntmps = 4 := by kernel_rfl
@[go_sem] theorem f112_en : entersB Tryz.prog 112 = true := by kernel_rfl
@[go_sem] theorem f112_rs : Tryz.f112.results.toList = [.cell 4 33] := by kernel_rfl
@[go_sem] theorem f112_nt : Tryz.f112.ntmps = 16 := by kernel_rfl
@[go_sem] theorem f113_en : entersB Tryz.prog 113 = true := by kernel_rfl
@[go_sem] theorem f113_rs : Tryz.f113.results.toList = [.tmp 2] := by kernel_rfl
@[go_sem] theorem f113_nt : Tryz.f113.ntmps = 11 := by kernel_rfl
@[go_sem] theorem f114_en : entersB Tryz.prog 114 = true := by kernel_rfl
@[go_sem] theorem f114_rs : Tryz.f114.results.toList = [.tmp 4] := by kernel_rfl
@[go_sem] theorem f114_nt : Tryz.f114.ntmps = 39 := by kernel_rfl
@[go_sem] theorem f115_en : entersB Tryz.prog 115 = true := by kernel_rfl
@[go_sem] theorem f115_rs : Tryz.f115.results.toList = [.tmp 4] := by kernel_rfl
@[go_sem] theorem f115_nt : Tryz.f115.ntmps = 34 := by kernel_rfl
@[go_sem] theorem f116_en : entersB Tryz.prog 116 = true := by kernel_rfl
@[go_sem] theorem f116_rs : Tryz.f116.results.toList = [.tmp 2] := by kernel_rfl
@[go_sem] theorem f116_nt : Tryz.f116.ntmps = 74 := by kernel_rfl
@[go_sem] theorem f117_en : entersB Tryz.prog 117 = true := by kernel_rfl
@[go_sem] theorem f117_rs : Tryz.f117.results.toList = [.tmp 4] := by kernel_rfl
@[go_sem] theorem f117_nt : Tryz.f117.ntmps = 9 := by kernel_rfl
@[go_sem] theorem f118_en : entersB Tryz.prog 118 = true := by kernel_rfl
@[go_sem] theorem f118_rs : Tryz.f118.results.toList = [.tmp 3] := by kernel_rfl
@[go_sem] theorem f118_nt : Tryz.f118.ntmps = 7 := by kernel_rfl
@[go_sem] theorem f119_en : entersB Tryz.prog 119 = true := by kernel_rfl
@[go_sem] theorem f119_rs : Tryz.f119.results.toList = [.tmp 4] := by kernel_rfl
@[go_sem] theorem f119_nt : Tryz.f119.ntmps = 17 := by kernel_rfl
@[go_sem] theorem f120_en : entersB Tryz.prog 120 = true := by kernel_rfl
@[go_sem] theorem f120_rs : Tryz.f120.results.toList = [.tmp 2] := by kernel_rfl
@[go_sem] theorem f120_nt : Tryz.f120.ntmps = 40 := by kernel_rfl
@[go_sem] theorem f121_en : entersB Tryz.prog 121 = true := by kernel_rfl
@[go_sem] theorem f121_rs : Tryz.f121.results.toList = [.tmp 4] := by kernel_rfl
@[go_sem] theorem f121_nt : Tryz.f121.ntmps = 27 := by kernel_rfl
@[go_sem] theorem f122_en : entersB Tryz.prog 122 = true := by kernel_rfl
@[go_sem] theorem f122_rs : Tryz.f122.results.toList = [] := by kernel_rfl
@[go_sem] theorem f122_nt : Tryz.f122.ntmps = 63 := by kernel_rfl
@[go_sem] theorem f123_en : entersB Tryz.prog 123 = true := by kernel_rfl
@[go_sem] theorem f123_rs : Tryz.f123.results.toList = [.tmp 2] := by kernel_rfl
@[go_sem] theorem f123_nt : Tryz.f123.ntmps = 9 := by kernel_rfl
@[go_sem] theorem f124_en : entersB Tryz.prog 124 = true := by kernel_rfl
@[go_sem] theorem f124_rs : Tryz.f124.results.toList = [.tmp 2] := by kernel_rfl
@[go_sem] theorem f124_nt : Tryz.f124.ntmps = 4 := by kernel_rfl
@[go_sem] theorem f125_en : entersB Tryz.prog 125 = true := by kernel_rfl
@[go_sem] theorem f125_rs : Tryz.f125.results.toList = [] := by kernel_rfl
@[go_sem] theorem f125_nt : Tryz.f125.ntmps = 33 := by kernel_rfl
@[go_sem] theorem f126_en : entersB Tryz.prog 126 = true := by kernel_rfl
@[go_sem] theorem f126_rs : Tryz.f126.results.toList = [.tmp 2] := by kernel_rfl
@[go_sem] theorem f126_nt : Tryz.f126.ntmps = 11 := by kernel_rfl
@[go_sem] theorem f127_en : entersB Tryz.prog 127 = true := by kernel_rfl
@[go_sem] theorem f127_rs : Tryz.f127.results.toList = [.tmp 4] := by kernel_rfl
@[go_sem] theorem f127_nt : Tryz.f127.ntmps = 15 := by kernel_rfl
@[go_sem] theorem f128_en : entersB Tryz.prog 128 = true := by kernel_rfl
@[go_sem] theorem f128_rs : Tryz.f128.results.toList = [.tmp 2] := by kernel_rfl
@[go_sem] theorem f128_nt : Tryz.f128.ntmps = 4 := by kernel_rfl
@[go_sem] theorem f129_en : entersB Tryz.prog 129 = true := by kernel_rfl
@[go_sem] theorem f129_rs : Tryz.f129.results.toList = [.tmp 2] := by kernel_rfl
@[go_sem] theorem f129_nt : Tryz.f129.ntmps = 9 := by kernel_rfl
@[go_sem] theorem f130_en : entersB Tryz.prog 130 = true := by kernel_rfl
@[go_sem] theorem f130_rs : Tryz.f130.results.toList = [] := by kernel_rfl
@[go_sem] theorem f130_nt : Tryz.f130.ntmps = 11 := by kernel_rfl
@[go_sem] theorem f131_en : entersB Tryz.prog 131 = true := by kernel_rfl
@[go_sem] theorem f131_rs : Tryz.f131.results.toList = [.tmp 2] := by kernel_rfl
@[go_sem] theorem f131_nt : Tryz.f131.ntmps = 61 := by kernel_rfl
@[go_sem] theorem f132_en : entersB Tryz.prog 132 = true := by kernel_rfl
@[go_sem] theorem f132_rs : Tryz.f132.results.toList = [.tmp 4] := by kernel_rfl
@[go_sem] theorem f132_nt : Tryz.f132.ntmps = 9 := by kernel_rfl
@[go_sem] theorem f133_en : entersB Tryz.prog 133 = true := by kernel_rfl
@[go_sem] theorem f133_rs : Tryz.f133.results.toList = [.tmp 3] := by kernel_rfl
@[go_sem] theorem f133_nt : Tryz.f133.ntmps = 14 := by kernel_rfl
@[go_sem] theorem f134_en : entersB Tryz.prog 134 = true := by kernel_rfl
@[go_sem] theorem f134_rs : Tryz.f134.results.toList = [.tmp 4] := by kernel_rfl
@[go_sem] theorem f134_nt : Tryz.f134.ntmps = 19 := by kernel_rfl
@[go_sem] theorem f135_en : entersB Tryz.prog 135 = true := by kernel_rfl
@[go_sem] theorem f135_rs : Tryz.f135.results.toList = [] := by kernel_rfl
@[go_sem] theorem f135_nt : Tryz.f135.ntmps = 53 := by kernel_rfl
@[go_sem] theorem f136_en : entersB Tryz.prog 136 = true := by kernel_rfl
@[go_sem] theorem f136_rs : Tryz.f136.results.toList = [] := by kernel_rfl
@[go_sem] theorem f136_nt : Tryz.f136.ntmps = 220 := by kernel_rfl
@[go_sem] theorem f137_en : entersB Tryz.prog 137 = true := by kernel_rfl
@[go_sem] theorem f137_rs : Tryz.f137.results.toList = [.tmp 4] := by kernel_rfl
@[go_sem] theorem f137_nt : Tryz.f137.ntmps = 8 := by kernel_rfl
@[go_sem] theorem f138_en : entersB Tryz.prog 138 = true := by kernel_rfl
@[go_sem] theorem f138_rs : Tryz.f138.results.toList = [.tmp 4] := by kernel_rfl
@[go_sem] theorem f138_nt : Tryz.f138.ntmps = 8 := by kernel_rfl
@[go_sem] theorem f139_en : entersB Tryz.prog 139 = true := by kernel_rfl
@[go_sem] theorem f139_rs : Tryz.f139.results.toList = [] := by kernel_rfl
@[go_sem] theorem f139_nt : Tryz.f139.ntmps = 53 := by kernel_rfl
@[go_sem] theorem f140_en : entersB Tryz.prog 140 = true := by kernel_rfl
@[go_sem] theorem f140_rs : Tryz.f140.results.toList = [] := by kernel_rfl
@[go_sem] theorem f140_nt : Tryz.f140.ntmps = 60 := by kernel_rfl
@[go_sem] theorem f141_en : entersB Tryz.prog 141 = true := by kernel_rfl
@[go_sem] theorem f141_rs : Tryz.f141.results.toList = [] := by kernel_rfl
@[go_sem] theorem f141_nt : Tryz.f141.ntmps = 67 := by kernel_rfl
@[go_sem] theorem f142_en : entersB Tryz.prog 142 = true := by kernel_rfl
@[go_sem] theorem f142_rs : Tryz.f142.results.toList = [.tmp 8, .tmp 9] := by kernel_rfl
@[go_sem] theorem f142_nt : Tryz.f142.ntmps = 63 := by kernel_rfl
@[go_sem] theorem f143_en : entersB Tryz.prog 143 = true := by kernel_rfl
@[go_sem] theorem f143_rs : Tryz.f143.results.toList = [] := by kernel_rfl
@[go_sem] theorem f143_nt : Tryz.f143.ntmps = 34 := by kernel_rfl
@[go_sem] theorem f144_en : entersB Tryz.prog 144 = true := by kernel_rfl
@[go_sem] theorem f144_rs : Tryz.f144.results.toList = [.tmp 8] := by kernel_rfl
@[go_sem] theorem f144_nt : Tryz.f144.ntmps = 141 := by kernel_rfl
@[go_sem] theorem f145_en : entersB Tryz.prog 145 = true := by kernel_rfl
@[go_sem] theorem f145_rs : Tryz.f145.results.toList = [.tmp 10] := by kernel_rfl
@[go_sem] theorem f145_nt : Tryz.f145.ntmps = 90 := by kernel_rfl
@[go_sem] theorem f146_en : entersB Tryz.prog 146 = true := by kernel_rfl
@[go_sem] theorem f146_rs : Tryz.f146.results.toList = [.tmp 10, .tmp 11] := by kernel_rfl
@[go_sem] theorem f146_nt : Tryz.f146.ntmps = 178 := by kernel_rfl
@[go_sem] theorem f147_en : entersB Tryz.prog 147 = true := by kernel_rfl
@[go_sem] theorem f147_rs : Tryz.f147.results.toList = [.tmp 2] := by kernel_rfl
@[go_sem] theorem f147_nt : Tryz.f147.ntmps = 19 := by kernel_rfl
@[go_sem] theorem f148_en : entersB Tryz.prog 148 = true := by kernel_rfl
@[go_sem] theorem f148_rs : Tryz.f148.results.toList = [.tmp 2] := by kernel_rfl
@[go_sem] theorem f148_nt : Tryz.f148.ntmps = 25 := by kernel_rfl
@[go_sem] theorem f149_en : entersB Tryz.prog 149 = true := by kernel_rfl
@[go_sem] theorem f149_rs : Tryz.f149.results.toList = [] := by kernel_rfl
@[go_sem] theorem f149_nt : Tryz.f149.ntmps = 134 := by kernel_rfl
@[go_sem] theorem f150_en : entersB Tryz.prog 150 = true := by kernel_rfl
@[go_sem] theorem f150_rs : Tryz.f150.results.toList = [.tmp 4] := by kernel_rfl
@[go_sem] theorem f150_nt : Tryz.f150.ntmps = 27 := by kernel_rfl
@[go_sem] theorem f151_en : entersB Tryz.prog 151 = true := by kernel_rfl
@[go_sem] theorem f151_rs : Tryz.f151.results.toList = [.cell 4 215] := by kernel_rfl
@[go_sem] theorem f151_nt : Tryz.f151.ntmps = 127 := by kernel_rfl
@[go_sem] theorem f152_en : entersB Tryz.prog 152 = true := by kernel_rfl
@[go_sem] theorem f152_rs : Tryz.f152.results.toList = [.tmp 2] := by kernel_rfl
@[go_sem] theorem f152_nt : Tryz.f152.ntmps = 7 := by kernel_rfl
@[go_sem] theorem f153_en : entersB Tryz.prog 153 = true := by kernel_rfl
@[go_sem] theorem f153_rs : Tryz.f153.results.toList = [.tmp 2] := by kernel_rfl
@[go_sem] theorem f153_nt : Tryz.f153.ntmps = 18 := by kernel_rfl
@[go_sem] theorem f154_en : entersB Tryz.prog 154 = true := by kernel_rfl
@[go_sem] theorem f154_rs : Tryz.f154.results.toList = [.cell 5 166] := by kernel_rfl
@[go_sem] theorem f154_nt : Tryz.f154.ntmps = 16 := by kernel_rfl
@[go_sem] theorem f155_en : entersB Tryz.prog 155 = true := by kernel_rfl
@[go_sem] theorem f155_rs : Tryz.f155.results.toList = [.cell 0 166] := by kernel_rfl
@[go_sem] theorem f155_nt : Tryz.f155.ntmps = 2 := by kernel_rfl
@[go_sem] theorem f156_en : entersB Tryz.prog 156 = true := by kernel_rfl
@[go_sem] theorem f156_rs : Tryz.f156.results.toList = [.cell 6 166] := by kernel_rfl
@[go_sem] theorem f156_nt : Tryz.f156.ntmps = 20 := by kernel_rfl
@[go_sem] theorem f157_en : entersB Tryz.prog 157 = true := by kernel_rfl
@[go_sem] theorem f157_rs : Tryz.f157.results.toList = [.cell 4 166] := by kernel_rfl
@[go_sem] theorem f157_nt : Tryz.f157.ntmps = 10 := by kernel_rfl
@[go_sem] theorem f158_en : entersB Tryz.prog 158 = true := by kernel_rfl
@[go_sem] theorem f158_rs : Tryz.f158.results.toList = [.cell 6 166] := by kernel_rfl
@[go_sem] theorem f158_nt : Tryz.f158.ntmps = 88 := by kernel_rfl
@[go_sem] theorem f159_en : entersB Tryz.prog 159 = true := by kernel_rfl
@[go_sem] theorem f159_rs : Tryz.f159.results.toList = [.cell 5 166] := by kernel_rfl
@[go_sem] theorem f159_nt : Tryz.f159.ntmps = 36 := by kernel_rfl
@[go_sem] theorem f160_en : entersB Tryz.prog 160 = true := by kernel_rfl
@[go_sem] theorem f160_rs : Tryz.f160.results.toList = [.tmp 4] := by kernel_rfl
@[go_sem] theorem f160_nt : Tryz.f160.ntmps = 20 := by kernel_rfl
@[go_sem] theorem f161_en : entersB Tryz.prog 161 = true := by kernel_rfl
@[go_sem] theorem f161_rs : Tryz.f161.results.toList = [.tmp 6, .tmp 7] := by kernel_rfl
@[go_sem] theorem f161_nt : Tryz.f161.ntmps = 49 := by kernel_rfl
@[go_sem] theorem f162_en : entersB Tryz.prog 162 = true := by kernel_rfl
@[go_sem] theorem f162_rs : Tryz.f162.results.toList = [.tmp 4] := by kernel_rfl
@[go_sem] theorem f162_nt : Tryz.f162.ntmps = 9 := by kernel_rfl
@[go_sem] theorem f163_en : entersB Tryz.prog 163 = true := by kernel_rfl
@[go_sem] theorem f163_rs : Tryz.f163.results.toList = [.tmp 4] := by kernel_rfl
@[go_sem] theorem f163_nt : Tryz.f163.ntmps = 35 := by kernel_rfl
@[go_sem] theorem f164_en : entersB Tryz.prog 164 = true := by kernel_rfl
@[go_sem] theorem f164_rs : Tryz.f164.results.toList = [.tmp 2] := by kernel_rfl
@[go_sem] theorem f164_nt : Tryz.f164.ntmps = 18 := by kernel_rfl
@[go_sem] theorem f165_en : entersB Tryz.prog 165 = true := by kernel_rfl
@[go_sem] theorem f165_rs : Tryz.f165.results.toList = [.tmp 4] := by kernel_rfl
@[go_sem] theorem f165_nt : Tryz.f165.ntmps = 19 := by kernel_rfl
@[go_sem] theorem f166_en : entersB Tryz.prog 166 = true := by kernel_rfl
@[go_sem] theorem f166_rs : Tryz.f166.results.toList = [.tmp 2] := by kernel_rfl
@[go_sem] theorem f166_nt : Tryz.f166.ntmps = 42 := by kernel_rfl
@[go_sem] theorem f167_en : entersB Tryz.prog 167 = true := by kernel_rfl
@[go_sem] theorem f167_rs : Tryz.f167.results.toList = [.cell 2 68] := by kernel_rfl
@[go_sem] theorem f167_nt : Tryz.f167.ntmps = 18 := by kernel_rfl
@[go_sem] theorem f168_en : entersB Tryz.prog 168 = true := by kernel_rfl
@[go_sem] theorem f168_rs : Tryz.f168.results.toList = [] := by kernel_rfl
@[go_sem] theorem f168_nt : Tryz.f168.ntmps = 53 := by kernel_rfl
@[go_sem] theorem f169_en : entersB Tryz.prog 169 = true := by kernel_rfl
@[go_sem] theorem f169_rs : Tryz.f169.results.toList = [] := by kernel_rfl
@[go_sem] theorem f169_nt : Tryz.f169.ntmps = 220 := by kernel_rfl
@[go_sem] theorem f170_en : entersB Tryz.prog 170 = true := by kernel_rfl
@[go_sem] theorem f170_rs : Tryz.f170.results.toList = [.tmp 2] := by kernel_rfl
@[go_sem] theorem f170_nt : Tryz.f170.ntmps = 5 := by kernel_rfl
@[go_sem] theorem f171_en : entersB Tryz.prog 171 = true := by kernel_rfl
@[go_sem] theorem f171_rs : Tryz.f171.results.toList = [] := by kernel_rfl
@[go_sem] theorem f171_nt : Tryz.f171.ntmps = 14 := by kernel_rfl
@[go_sem] theorem f172_en : entersB Tryz.prog 172 = true := by kernel_rfl
@[go_sem] theorem f172_rs : Tryz.f172.results.toList = [] := by kernel_rfl
@[go_sem] theorem f172_nt : Tryz.f172.ntmps = 14 := by kernel_rfl
@[go_sem] theorem f173_en : entersB Tryz.prog 173 = true := by kernel_rfl
@[go_sem] theorem f173_rs : Tryz.f173.results.toList = [] := by kernel_rfl
@[go_sem] theorem f173_nt : Tryz.f173.ntmps = 134 := by kernel_rfl
@[go_sem] theorem f174_en : entersB Tryz.prog 174 = true := by kernel_rfl
@[go_sem] theorem f174_rs : Tryz.f174.results.toList = [.tmp 4] := by kernel_rfl
@[go_sem] theorem f174_nt : Tryz.f174.ntmps = 19 := by kernel_rfl
@[go_sem] theorem f175_en : entersB Tryz.prog 175 = true := by kernel_rfl
@[go_sem] theorem f175_rs : Tryz.f175.results.toList = [] := by kernel_rfl
@[go_sem] theorem f175_nt : Tryz.f175.ntmps = 58 := by kernel_rfl
@[go_sem] theorem f177_en : entersB Tryz.prog 177 = true := by kernel_rfl
@[go_sem] theorem f177_rs : Tryz.f177.results.toList = [.tmp 4] := by kernel_rfl
@[go_sem] theorem f177_nt : Tryz.f177.ntmps = 8 := by kernel_rfl
@[go_sem] theorem f178_en : entersB Tryz.prog 178 = true := by kernel_rfl
@[go_sem] theorem f178_rs : Tryz.f178.results.toList = [] := by kernel_rfl
@[go_sem] theorem f178_nt : Tryz.f178.ntmps = 82 := by kernel_rfl
@[go_sem] theorem f179_en : entersB Tryz.prog 179 = true := by kernel_rfl
@[go_sem] theorem f179_rs : Tryz.f179.results.toList = [.tmp 2] := by kernel_rfl
@[go_sem] theorem f179_nt : Tryz.f179.ntmps = 7 := by kernel_rfl
@[go_sem] theorem f180_en : entersB Tryz.prog 180 = true := by kernel_rfl
@[go_sem] theorem f180_rs : Tryz.f180.results.toList = [.tmp 2] := by kernel_rfl
@[go_sem] theorem f180_nt : Tryz.f180.ntmps = 33 := by kernel_rfl
@[go_sem] theorem f181_en : entersB Tryz.prog 181 = true := by kernel_rfl
@[go_sem] theorem f181_rs : Tryz.f181.results.toList = [.tmp 8] := by kernel_rfl
@[go_sem] theorem f181_nt : Tryz.f181.ntmps = 18 := by kernel_rfl
@[go_sem] theorem f182_en : entersB Tryz.prog 182 = true := by kernel_rfl
@[go_sem] theorem f182_rs : Tryz.f182.results.toList = [.tmp 12] := by kernel_rfl
@[go_sem] theorem f182_nt : Tryz.f182.ntmps = 41 := by kernel_rfl
@[go_sem] theorem f183_en : entersB Tryz.prog 183 = true := by kernel_rfl
@[go_sem] theorem f183_rs : Tryz.f183.results.toList = [] := by kernel_rfl
@[go_sem] theorem f183_nt : Tryz.f183.ntmps = 49 := by kernel_rfl
@[go_sem] theorem f184_en : entersB Tryz.prog 184 = true := by kernel_rfl
@[go_sem] theorem f184_rs : Tryz.f184.results.toList = [] := by kernel_rfl
@[go_sem] theorem f184_nt : Tryz.f184.ntmps = 56 := by kernel_rfl
@[go_sem] theorem f185_en : entersB Tryz.prog 185 = true := by kernel_rfl
@[go_sem] theorem f185_rs : Tryz.f185.results.toList = [] := by kernel_rfl
@[go_sem] theorem f185_nt : Tryz.f185.ntmps = 65 := by kernel_rfl
@[go_sem] theorem f186_en : entersB Tryz.prog 186 = true := by kernel_rfl
@[go_sem] theorem f186_rs : Tryz.f186.results.toList = [.tmp 6, .tmp 7] := by kernel_rfl
@[go_sem] theorem f186_nt : Tryz.f186.ntmps = 57 := by kernel_rfl
@[go_sem] theorem f187_en : entersB Tryz.prog 187 = true := by kernel_rfl
@[go_sem] theorem f187_rs : Tryz.f187.results.toList = [] := by kernel_rfl
@[go_sem] theorem f187_nt : Tryz.f187.ntmps = 32 := by kernel_rfl
@[go_sem] theorem f188_en : entersB Tryz.prog 188 = true := by kernel_rfl
@[go_sem] theorem f188_rs : Tryz.f188.results.toList = [.tmp 6] := by kernel_rfl
@[go_sem] theorem f188_nt : Tryz.f188.ntmps = 133 := by kernel_rfl
@[go_sem] theorem f189_en : entersB Tryz.prog 189 = true := by kernel_rfl
@[go_sem] theorem f189_rs : Tryz.f189.results.toList = [.tmp 4] := by kernel_rfl
@[go_sem] theorem f189_nt : Tryz.f189.ntmps = 17 := by kernel_rfl
@[go_sem] theorem f190_en : entersB Tryz.prog 190 = true := by kernel_rfl
@[go_sem] theorem f190_rs : Tryz.f190.results.toList = [.tmp 8] := by kernel_rfl
@[go_sem] theorem f190_nt : Tryz.f190.ntmps = 84 := by kernel_rfl
@[go_sem] theorem f191_en : entersB Tryz.prog 191 = true := by kernel_rfl
@[go_sem] theorem f191_rs : Tryz.f191.results.toList = [.tmp 8, .tmp 9] := by kernel_rfl
@[go_sem] theorem f191_nt : Tryz.f191.ntmps = 168 := by kernel_rfl
@[go_sem] theorem f192_en : entersB Tryz.prog 192 = true := by kernel_rfl
@[go_sem] theorem f192_rs : Tryz.f192.results.toList = [.tmp 2] := by kernel_rfl
@[go_sem] theorem f192_nt : Tryz.f192.ntmps = 9 := by kernel_rfl
@[go_sem] theorem f193_en : entersB Tryz.prog 193 = true := by kernel_rfl
@[go_sem] theorem f193_rs : Tryz.f193.results.toList = [.tmp 2] := by kernel_rfl
@[go_sem] theorem f193_nt : Tryz.f193.ntmps = 9 := by kernel_rfl
@[go_sem] theorem f194_en : entersB Tryz.prog 194 = true := by kernel_rfl
@[go_sem] theorem f194_rs : Tryz.f194.results.toList = [.tmp 8] := by kernel_rfl
@[go_sem] theorem f194_nt : Tryz.f194.ntmps = 54 := by kernel_rfl
@[go_sem] theorem f195_en : entersB Tryz.prog 195 = true := by kernel_rfl
@[go_sem] theorem f195_rs : Tryz.f195.results.toList = [.tmp 2] := by kernel_rfl
@[go_sem] theorem f195_nt : Tryz.f195.ntmps = 7 := by kernel_rfl
@[go_sem] theorem f196_en : entersB Tryz.prog 196 = true := by kernel_rfl
@[go_sem] theorem f196_rs : Tryz.f196.results.toList = [.tmp 4] := by kernel_rfl
@[go_sem] theorem f196_nt : Tryz.f196.ntmps = 22 := by kernel_rfl
@[go_sem] theorem f197_en : entersB Tryz.prog 197 = true := by kernel_rfl
@[go_sem] theorem f197_rs : Tryz.f197.results.toList = [.tmp 6, .tmp 7] := by kernel_rfl
@[go_sem] theorem f197_nt : Tryz.f197.ntmps = 49 := by kernel_rfl
@[go_sem] theorem f198_en : entersB Tryz.prog 198 = true := by kernel_rfl
@[go_sem] theorem f198_rs : Tryz.f198.results.toList = [.tmp 4] := by kernel_rfl
@[go_sem] theorem f198_nt : Tryz.f198.ntmps = 9 := by kernel_rfl
@[go_sem] theorem f199_en : entersB Tryz.prog 199 = true := by kernel_rfl
@[go_sem] theorem f199_rs : Tryz.f199.results.toList = [.cell 4 234] := by kernel_rfl
@[go_sem] theorem f199_nt : Tryz.f199.ntmps = 57 := by kernel_rfl
@[go_sem] theorem f200_en : entersB Tryz.prog 200 = true := by kernel_rfl
@[go_sem] theorem f200_rs : Tryz.f200.results.toList = [] := by kernel_rfl
@[go_sem] theorem f200_nt : Tryz.f200.ntmps = 58 := by kernel_rfl
@[go_sem] theorem f201_en : entersB Tryz.prog 201 = true := by kernel_rfl
@[go_sem] theorem f201_rs : Tryz.f201.results.toList = [.tmp 4] := by kernel_rfl
@[go_sem] theorem f201_nt : Tryz.f201.ntmps = 13 := by kernel_rfl
@[go_sem] theorem f202_en : entersB Tryz.prog 202 = true := by kernel_rfl
@[go_sem] theorem f202_rs : Tryz.f202.results.toList = [] := by kernel_rfl
@[go_sem] theorem f202_nt : Tryz.f202.ntmps = 49 := by kernel_rfl
@[go_sem] theorem f203_en : entersB Tryz.prog 203 = true := by kernel_rfl
@[go_sem] theorem f203_rs : Tryz.f203.results.toList = [] := by kernel_rfl
@[go_sem] theorem f203_nt : Tryz.f203.ntmps = 56 := by kernel_rfl
@[go_sem] theorem f204_en : entersB Tryz.prog 204 = true := by kernel_rfl
@[go_sem] theorem f204_rs : Tryz.f204.results.toList = [] := by kernel_rfl
@[go_sem] theorem f204_nt : Tryz.f204.ntmps = 65 := by kernel_rfl
@[go_sem] theorem f205_en : entersB Tryz.prog 205 = true := by kernel_rfl
@[go_sem] theorem f205_rs : Tryz.f205.results.toList = [.tmp 6, .tmp 7] := by kernel_rfl
@[go_sem] theorem f205_nt : Tryz.f205.ntmps = 57 := by kernel_rfl
@[go_sem] theorem f206_en : entersB Tryz.prog 206 = true := by kernel_rfl
@[go_sem] theorem f206_rs : Tryz.f206.results.toList = [] := by kernel_rfl
@[go_sem] theorem f206_nt : Tryz.f206.ntmps = 32 := by kernel_rfl
@[go_sem] theorem f207_en : entersB Tryz.prog 207 = true := by kernel_rfl
@[go_sem] theorem f207_rs : Tryz.f207.results.toList = [.tmp 6] := by kernel_rfl
@[go_sem] theorem f207_nt : Tryz.f207.ntmps = 133 := by kernel_rfl
@[go_sem] theorem f208_en : entersB Tryz.prog 208 = true := by kernel_rfl
@[go_sem] theorem f208_rs : Tryz.f208.results.toList = [.tmp 4] := by kernel_rfl
@[go_sem] theorem f208_nt : Tryz.f208.ntmps = 17 := by kernel_rfl
@[go_sem] theorem f209_en : entersB Tryz.prog 209 = true := by kernel_rfl
@[go_sem] theorem f209_rs : Tryz.f209.results.toList = [.tmp 8] := by kernel_rfl
@[go_sem] theorem f209_nt : Tryz.f209.ntmps = 84 := by kernel_rfl
@[go_sem] theorem f210_en : entersB Tryz.prog 210 = true := by kernel_rfl
@[go_sem] theorem f210_rs : Tryz.f210.results.toList = [.tmp 8, .tmp 9] := by kernel_rfl
@[go_sem] theorem f210_nt : Tryz.f210.ntmps = 168 := by kernel_rfl
@[go_sem] theorem f211_en : entersB Tryz.prog 211 = true := by kernel_rfl
@[go_sem] theorem f211_rs : Tryz.f211.results.toList = [] := by kernel_rfl
@[go_sem] theorem f211_nt : Tryz.f211.ntmps = 38 := by kernel_rfl
@[go_sem] theorem f213_en : entersB Tryz.prog 213 = true := by kernel_rfl
@[go_sem] theorem f213_rs : Tryz.f213.results.toList = [.tmp 10, .tmp 11] := by kernel_rfl
@[go_sem] theorem f213_nt : Tryz.f213.ntmps = 32 := by kernel_rfl
@[go_sem] theorem f214_en : entersB Tryz.prog 214 = true := by kernel_rfl
@[go_sem] theorem f214_rs : Tryz.f214.results.toList = [] := by kernel_rfl
@[go_sem] theorem f214_nt : Tryz.f214.ntmps = 76 := by kernel_rfl
@[go_sem] theorem f215_en : entersB Tryz.prog 215 = true := by kernel_rfl
@[go_sem] theorem f215_rs : Tryz.f215.results.toList = [.tmp 6] := by kernel_rfl
@[go_sem] theorem f215_nt : Tryz.f215.ntmps = 15 := by kernel_rfl
@[go_sem] theorem f216_en : entersB Tryz.prog 216 = true := by kernel_rfl
@[go_sem] theorem f216_rs : Tryz.f216.results.toList = [.tmp 10] := by kernel_rfl
@[go_sem] theorem f216_nt : Tryz.f216.ntmps = 36 := by kernel_rfl
@[go_sem] theorem f217_en : entersB Tryz.prog 217 = true := by kernel_rfl
@[go_sem] theorem f217_rs : Tryz.f217.results.toList = [.tmp 4] := by kernel_rfl
@[go_sem] theorem f217_nt : Tryz.f217.ntmps = 9 := by kernel_rfl
@[go_sem] theorem f218_en : entersB Tryz.prog 218 = true := by kernel_rfl
@[go_sem] theorem f218_rs : Tryz.f218.results.toList = [] := by kernel_rfl
@[go_sem] theorem f218_nt : Tryz.f218.ntmps = 42 := by kernel_rfl
@[go_sem] theorem f219_en : entersB Tryz.prog 219 = true := by kernel_rfl
@[go_sem] theorem f219_rs : Tryz.f219.results.toList = [.tmp 2] := by kernel_rfl
@[go_sem] theorem f219_nt : Tryz.f219.ntmps = 7 := by kernel_rfl
@[go_sem] theorem f220_en : entersB Tryz.prog 220 = true := by kernel_rfl
@[go_sem] theorem f220_rs : Tryz.f220.results.toList = [] := by kernel_rfl
@[go_sem] theorem f220_nt : Tryz.f220.ntmps = 38 := by kernel_rfl
@[go_sem] theorem f221_en : entersB Tryz.prog 221 = true := by kernel_rfl
@[go_sem] theorem f221_rs : Tryz.f221.results.toList = [] := by kernel_rfl
@[go_sem] theorem f221_nt : Tryz.f221.ntmps = 76 := by kernel_rfl
@[go_sem] theorem f222_en : entersB Tryz.prog 222 = true := by kernel_rfl
@[go_sem] theorem f222_rs : Tryz.f222.results.toList = [.tmp 6] := by kernel_rfl
@[go_sem] theorem f222_nt : Tryz.f222.ntmps = 15 := by kernel_rfl
@[go_sem] theorem f223_en : entersB Tryz.prog 223 = true := by kernel_rfl
@[go_sem] theorem f223_rs : Tryz.f223.results.toList = [.tmp 10] := by kernel_rfl
@[go_sem] theorem f223_nt : Tryz.f223.ntmps = 36 := by kernel_rfl
@[go_sem] theorem f224_en : entersB Tryz.prog 224 = true := by kernel_rfl
@[go_sem] theorem f224_rs : Tryz.f224.results.toList = [.tmp 2] := by kernel_rfl
@[go_sem] theorem f224_nt : Tryz.f224.ntmps = 6 := by kernel_rfl
@[go_sem] theorem f225_en : entersB Tryz.prog 225 = true := by kernel_rfl
@[go_sem] theorem f225_rs : Tryz.f225.results.toList = [.tmp 8, .tmp 9] := by kernel_rfl
@[go_sem] theorem f225_nt : Tryz.f225.ntmps = 28 := by kernel_rfl
@[go_sem] theorem f226_en : entersB Tryz.prog 226 = true := by kernel_rfl
@[go_sem] theorem f226_rs : Tryz.f226.results.toList = [.tmp 4] := by kernel_rfl
@[go_sem] theorem f226_nt : Tryz.f226.ntmps = 8 := by kernel_rfl
@[go_sem] theorem f227_en : entersB Tryz.prog 227 = true := by kernel_rfl
@[go_sem] theorem f227_rs : Tryz.f227.results.toList = [.tmp 2] := by kernel_rfl
@[go_sem] theorem f227_nt : Tryz.f227.ntmps = 87 := by kernel_rfl
@[go_sem] theorem f228_en : entersB Tryz.prog 228 = true := by kernel_rfl
@[go_sem] theorem f228_rs : Tryz.f228.results.toList = [.tmp 8, .tmp 9] := by kernel_rfl
@[go_sem] theorem f228_nt : Tryz.f228.ntmps = 28 := by kernel_rfl
@[go_sem] theorem f229_en : entersB Tryz.prog 229 = true := by kernel_rfl
@[go_sem] theorem f229_rs : Tryz.f229.results.toList = [.tmp 4] := by kernel_rfl
@[go_sem] theorem f229_nt : Tryz.f229.ntmps = 143 := by kernel_rfl
@[go_sem] theorem f230_en : entersB Tryz.prog 230 = true := by kernel_rfl
@[go_sem] theorem f230_rs : Tryz.f230.results.toList = [.tmp 4] := by kernel_rfl
@[go_sem] theorem f230_nt : Tryz.f230.ntmps = 20 := by kernel_rfl
@[go_sem] theorem f231_en : entersB Tryz.prog 231 = true := by kernel_rfl
@[go_sem] theorem f231_rs : Tryz.f231.results.toList = [.tmp 2] := by kernel_rfl
@[go_sem] theorem f231_nt : Tryz.f231.ntmps = 26 := by kernel_rfl
@[go_sem] theorem f232_en : entersB Tryz.prog 232 = true := by kernel_rfl
@[go_sem] theorem f232_rs : Tryz.f232.results.toList = [.tmp 2, .tmp 3] := by kernel_rfl
@[go_sem] theorem f232_nt : Tryz.f232.ntmps = 18 := by kernel_rfl
@[go_sem] theorem f233_en : entersB Tryz.prog 233 = true := by kernel_rfl
@[go_sem] theorem f233_rs : Tryz.f233.results.toList = [.tmp 4] := by kernel_rfl
@[go_sem] theorem f233_nt : Tryz.f233.ntmps = 62 := by kernel_rfl
@[go_sem] theorem f234_en : entersB Tryz.prog 234 = true := by kernel_rfl
@[go_sem] theorem f234_rs : Tryz.f234.results.toList = [.tmp 2] := by kernel_rfl
@[go_sem] theorem f234_nt : Tryz.f234.ntmps = 12 := by kernel_rfl
@[go_sem] theorem f235_en : entersB Tryz.prog 235 = true := by kernel_rfl
@[go_sem] theorem f235_rs : Tryz.f235.results.toList = [.tmp 4] := by kernel_rfl
@[go_sem] theorem f235_nt : Tryz.f235.ntmps = 44 := by kernel_rfl
@[go_sem] theorem f237_en : entersB Tryz.prog 237 = true := by kernel_rfl
@[go_sem] theorem f237_rs : Tryz.f237.results.toList = [.tmp 2] := by kernel_rfl
@[go_sem] theorem f237_nt : Tryz.f237.ntmps = 6 := by kernel_rfl
@[go_sem] theorem f238_en : entersB Tryz.prog 238 = true := by kernel_rfl
@[go_sem] theorem f238_rs : Tryz.f238.results.toList = [.tmp 4] := by kernel_rfl
@[go_sem] theorem f238_nt : Tryz.f238.ntmps = 81 := by kernel_rfl
@[go_sem] theorem f239_en : entersB Tryz.prog 239 = true := by kernel_rfl
@[go_sem] theorem f239_rs : Tryz.f239.results.toList = [.tmp 2, .tmp 3] := by kernel_rfl
@[go_sem] theorem f239_nt : Tryz.f239.ntmps = 77 := by kernel_rfl
@[go_sem] theorem f240_en : entersB Tryz.prog 240 = true := by kernel_rfl
@[go_sem] theorem f240_rs : Tryz.f240.results.toList = [.tmp 10] := by kernel_rfl
@[go_sem] theorem f240_nt : Tryz.f240.ntmps = 43 := by kernel_rfl
@[go_sem] theorem f241_en : entersB Tryz.prog 241 = true := by kernel_rfl
@[go_sem] theorem f241_rs : Tryz.f241.results.toList = [] := by kernel_rfl
@[go_sem] theorem f241_nt : Tryz.f241.ntmps = 19 := by kernel_rfl
@[go_sem] theorem f242_en : entersB Tryz.prog 242 = true := by kernel_rfl
@[go_sem] theorem f242_rs : Tryz.f242.results.toList = [.tmp 2, .tmp 3] := by kernel_rfl
@[go_sem] theorem f242_nt : Tryz.f242.ntmps = 39 := by kernel_rfl
@[go_sem] theorem f243_en : entersB Tryz.prog 243 = true := by kernel_rfl
@[go_sem] theorem f243_rs : Tryz.f243.results.toList = [.tmp 6, .tmp 7] := by kernel_rfl
@[go_sem] theorem f243_nt : Tryz.f243.ntmps = 73 := by kernel_rfl
@[go_sem] theorem f244_en : entersB Tryz.prog 244 = true := by kernel_rfl
@[go_sem] theorem f244_rs : Tryz.f244.results.toList = [.tmp 4] := by kernel_rfl
@[go_sem] theorem f244_nt : Tryz.f244.ntmps = 11 := by kernel_rfl
@[go_sem] theorem f245_en : entersB Tryz.prog 245 = true := by kernel_rfl
@[go_sem] theorem f245_rs : Tryz.f245.results.toList = [.tmp 4] := by kernel_rfl
@[go_sem] theorem f245_nt : Tryz.f245.ntmps = 11 := by kernel_rfl
@[go_sem] theorem f246_en : entersB Tryz.prog 246 = true := by kernel_rfl
@[go_sem] theorem f246_rs : Tryz.f246.results.toList = [.tmp 6] := by kernel_rfl
@[go_sem] theorem f246_nt : Tryz.f246.ntmps = 16 := by kernel_rfl
@[go_sem] theorem f247_en : entersB Tryz.prog 247 = true := by kernel_rfl
@[go_sem] theorem f247_rs : Tryz.f247.results.toList = [.tmp 6] := by kernel_rfl
@[go_sem] theorem f247_nt : Tryz.f247.ntmps = 16 := by kernel_rfl
@[go_sem] theorem f248_en : entersB Tryz.prog 248 = true := by kernel_rfl
@[go_sem] theorem f248_rs : Tryz.f248.results.toList = [.tmp 6, .tmp 7] := by kernel_rfl
@[go_sem] theorem f248_nt : Tryz.f248.ntmps = 172 := by kernel_rfl
@[go_sem] theorem f249_en : entersB Tryz.prog 249 = true := by kernel_rfl
@[go_sem] theorem f249_rs : Tryz.f249.results.toList = [.tmp 2] := by kernel_rfl
@[go_sem] theorem f249_nt : Tryz.f249.ntmps = 18 := by kernel_rfl
@[go_sem] theorem f250_en : entersB Tryz.prog 250 = true := by kernel_rfl
@[go_sem] theorem f250_rs : Tryz.f250.results.toList = [.tmp 2] := by kernel_rfl
@[go_sem] theorem f250_nt : Tryz.f250.ntmps = 7 := by kernel_rfl
@[go_sem] theorem f251_en : entersB Tryz.prog 251 = true := by kernel_rfl
@[go_sem] theorem f251_rs : Tryz.f251.results.toList = [.tmp 2] := by kernel_rfl
@[go_sem] theorem f251_nt : Tryz.f251.ntmps = 5 := by kernel_rfl
@[go_sem] theorem f252_en : entersB Tryz.prog 252 = true := by kernel_rfl
@[go_sem] theorem f252_rs : Tryz.f252.results.toList = [.tmp 2] := by kernel_rfl
@[go_sem] theorem f252_nt : Tryz.f252.ntmps = 5 := by kernel_rfl
@[go_sem] theorem f253_en : entersB Tryz.prog 253 = true := by kernel_rfl
@[go_sem] theorem f253_rs : Tryz.f253.results.toList = [.tmp 2] := by kernel_rfl
@[go_sem] theorem f253_nt : Tryz.f253.ntmps = 94 := by kernel_rfl
@[go_sem] theorem f254_en : entersB Tryz.prog 254 = true := by kernel_rfl
@[go_sem] theorem f254_rs : Tryz.f254.results.toList = [.tmp 2] := by kernel_rfl
@[go_sem] theorem f254_nt : Tryz.f254.ntmps = 5 := by kernel_rfl
@[go_sem] theorem f255_en : entersB Tryz.prog 255 = true := by kernel_rfl
@[go_sem] theorem f255_rs : Tryz.f255.results.toList = [.tmp 4] := by kernel_rfl
@[go_sem] theorem f255_nt : Tryz.f255.ntmps = 54 := by kernel_rfl
@[go_sem] theorem f256_en : entersB Tryz.prog 256 = true := by kernel_rfl
@[go_sem] theorem f256_rs : Tryz.f256.results.toList = [.tmp 2] := by kernel_rfl
@[go_sem] theorem f256_nt : Tryz.f256.ntmps = 15 := by kernel_rfl
@[go_sem] theorem f257_en : entersB Tryz.prog 257 = true := by kernel_rfl
@[go_sem] theorem f257_rs : Tryz.f257.results.toList = [.tmp 2] := by kernel_rfl
@[go_sem] theorem f257_nt : Tryz.f257.ntmps = 15 := by kernel_rfl
@[go_sem] theorem f258_en : entersB Tryz.prog 258 = true := by kernel_rfl
@[go_sem] theorem f258_rs : Tryz.f258.results.toList = [] := by kernel_rfl
@[go_sem] theorem f258_nt : Tryz.f258.ntmps = 167 := by kernel_rfl
@[go_sem] theorem f259_en : entersB Tryz.prog 259 = true := by kernel_rfl
@[go_sem] theorem f259_rs : Tryz.f259.results.toList = [.tmp 10, .tmp 11] := by kernel_rfl
@[go_sem] theorem f259_nt : Tryz.f259.ntmps = 102 := by kernel_rfl
@[go_sem] theorem f260_en : entersB Tryz.prog 260 = true := by kernel_rfl
@[go_sem] theorem f260_rs : Tryz.f260.results.toList = [.tmp 2] := by kernel_rfl
@[go_sem] theorem f260_nt : Tryz.f260.ntmps = 6 := by kernel_rfl
@[go_sem] theorem f261_en : entersB Tryz.prog 261 = true := by kernel_rfl
@[go_sem] theorem f261_rs : Tryz.f261.results.toList = [.tmp 2] := by kernel_rfl
@[go_sem] theorem f261_nt : Tryz.f261.ntmps = 4 := by kernel_rfl
@[go_sem] theorem f262_en : entersB Tryz.prog 262 = true := by kernel_rfl
@[go_sem] theorem f262_rs : Tryz.f262.results.toList = [.tmp 2] := by kernel_rfl
@[go_sem] theorem f262_nt : Tryz.f262.ntmps = 8 := by kernel_rfl
@[go_sem] theorem f263_en : entersB Tryz.prog 263 = true := by kernel_rfl
@[go_sem] theorem f263_rs : Tryz.f263.results.toList = [.tmp 2] := by kernel_rfl
@[go_sem] theorem f263_nt : Tryz.f263.ntmps = 8 := by kernel_rfl
@[go_sem] theorem f264_en : entersB Tryz.prog 264 = true := by kernel_rfl
@[go_sem] theorem f264_rs : Tryz.f264.results.toList = [.tmp 2] := by kernel_rfl
@[go_sem] theorem f264_nt : Tryz.f264.ntmps = 14 := by kernel_rfl
@[go_sem] theorem f265_en : entersB Tryz.prog 265 = true := by kernel_rfl
@[go_sem] theorem f265_rs : Tryz.f265.results.toList = [.tmp 2] := by kernel_rfl
@[go_sem] theorem f265_nt : Tryz.f265.ntmps = 14 := by kernel_rfl
@[go_sem] theorem f294_en : entersB Tryz.prog 294 = true := by kernel_rfl
@[go_sem] theorem f294_rs : Tryz.f294.results.toList = [] := by kernel_rfl
@[go_sem] theorem f294_nt : Tryz.f294.ntmps = 5 := by kernel_rfl
@[go_sem] theorem f0_en : entersB Tryz.prog 0 = false := by kernel_rfl
@[go_sem] theorem f1_en : entersB Tryz.prog 1 = false := by kernel_rfl
@[go_sem] theorem f176_en : entersB Tryz.prog 176 = false := by kernel_rfl
@[go_sem] theorem f212_en : entersB Tryz.prog 212 = false := by kernel_rfl
@[go_sem] theorem f236_en : entersB Tryz.prog 236 = false := by kernel_rfl
@[go_sem] theorem f266_en : entersB Tryz.prog 266 = false := by kernel_rfl
@[go_sem] theorem f267_en : entersB Tryz.prog 267 = false := by kernel_rfl
@[go_sem] theorem f268_en : entersB Tryz.prog 268 = false := by kernel_rfl
@[go_sem] theorem f269_en : entersB Tryz.prog 269 = false := by kernel_rfl
@[go_sem] theorem f270_en : entersB Tryz.prog 270 = false := by kernel_rfl
@[go_sem] theorem f271_en : entersB Tryz.prog 271 = false := by kernel_rfl
@[go_sem] theorem f272_en : entersB Tryz.prog 272 = false := by kernel_rfl
@[go_sem] theorem f273_en : entersB Tryz.prog 273 = false := by kernel_rfl
@[go_sem] theorem f274_en : entersB Tryz.prog 274 = false := by kernel_rfl
@[go_sem] theorem f275_en : entersB Tryz.prog 275 = false := by kernel_rfl
@[go_sem] theorem f276_en : entersB Tryz.prog 276 = false := by kernel_rfl
@[go_sem] theorem f277_en : entersB Tryz.prog 277 = false := by kernel_rfl
@[go_sem] theorem f278_en : entersB Tryz.prog 278 = false := by kernel_rfl
@[go_sem] theorem f279_en : entersB Tryz.prog 279 = false := by kernel_rfl
@[go_sem] theorem f280_en : entersB Tryz.prog 280 = false := by kernel_rfl
@[go_sem] theorem f281_en : entersB Tryz.prog 281 = false := by kernel_rfl
@[go_sem] theorem f282_en : entersB Tryz.prog 282 = false := by kernel_rfl
@[go_sem] theorem f283_en : entersB Tryz.prog 283 = false := by kernel_rfl
@[go_sem] theorem f284_en : entersB Tryz.prog 284 = false := by kernel_rfl
@[go_sem] theorem f285_en : entersB Tryz.prog 285 = false := by kernel_rfl
@[go_sem] theorem f286_en : entersB Tryz.prog 286 = false := by kernel_rfl
@[go_sem] theorem f287_en : entersB Tryz.prog 287 = false := by kernel_rfl
@[go_sem] theorem f288_en : entersB Tryz.prog 288 = false := by kernel_rfl
@[go_sem] theorem f289_en : entersB Tryz.prog 289 = false := by kernel_rfl
@[go_sem] theorem f290_en : entersB Tryz.prog 290 = false := by kernel_rfl
@[go_sem] theorem f291_en : entersB Tryz.prog 291 = false := by kernel_rfl
@[go_sem] theorem f292_en : entersB Tryz.prog 292 = false := by kernel_rfl
@[go_sem] theorem f293_en : entersB Tryz.prog 293 = false := by kernel_rfl
end Go.Proofs.YtppmkgaobeccfaaGreatDoor
