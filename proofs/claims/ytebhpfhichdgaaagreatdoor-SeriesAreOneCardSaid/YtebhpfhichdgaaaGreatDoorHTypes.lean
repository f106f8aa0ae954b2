/- Facts on the types. No condition. -/
import Derived.Test.YtebhpfhichdgaaaGreatDoorProg
import Derived.KernelRfl
import Derived.Test.YtebhpfhichdgaaaGreatDoorHCoreC
namespace Go.Proofs.YtebhpfhichdgaaaGreatDoor
open Go Go.RowKit
@[go_sem] theorem t3_ag : aggT Tryz.prog 3 = false := by kernel_rfl
@[go_sem] theorem t3_sz : szT Tryz.prog 3 = 1 := by kernel_rfl
@[go_sem] theorem t3_in : (Tryz.prog.info? 3).isSome = true := by kernel_rfl
@[go_sem] theorem t3_un : (Tryz.prog.underlying 3).isSome = true := by kernel_rfl
@[go_sem] theorem t3_ze : zeroT Tryz.prog 3 = some [.int .i64 0] := by kernel_rfl
@[go_sem] theorem t5_un : (Tryz.prog.underlying 5).isSome = true := by kernel_rfl
@[go_sem] theorem t9_ag : aggT Tryz.prog 9 = false := by kernel_rfl
@[go_sem] theorem t9_sz : szT Tryz.prog 9 = 1 := by kernel_rfl
@[go_sem] theorem t9_in : (Tryz.prog.info? 9).isSome = true := by kernel_rfl
@[go_sem] theorem t9_ze : zeroT Tryz.prog 9 = some [.str ⟨#[]⟩] := by kernel_rfl
@[go_sem] theorem t9_by : Tryz.prog.bytesOf 9 = 16 := by kernel_rfl
@[go_sem] theorem t22_ag : aggT Tryz.prog 22 = false := by kernel_rfl
@[go_sem] theorem t22_sz : szT Tryz.prog 22 = 1 := by kernel_rfl
@[go_sem] theorem t22_in : (Tryz.prog.info? 22).isSome = true := by kernel_rfl
@[go_sem] theorem t22_un : (Tryz.prog.underlying 22).isSome = true := by kernel_rfl
@[go_sem] theorem t25_ze : zeroT Tryz.prog 25 = some [.sl none 0, .int .i64 0] := by kernel_rfl
@[go_sem] theorem t25_fo : fieldsOk Tryz.prog 25 = true := by kernel_rfl
@[go_sem] theorem t30_ag : aggT Tryz.prog 30 = false := by kernel_rfl
@[go_sem] theorem t30_sz : szT Tryz.prog 30 = 1 := by kernel_rfl
@[go_sem] theorem t30_in : (Tryz.prog.info? 30).isSome = true := by kernel_rfl
@[go_sem] theorem t30_un : (Tryz.prog.underlying 30).isSome = true := by kernel_rfl
@[go_sem] theorem t30_ze : zeroT Tryz.prog 30 = some [.int .i64 0] := by kernel_rfl
@[go_sem] theorem t46_ag : aggT Tryz.prog 46 = true := by kernel_rfl
@[go_sem] theorem t46_sz : szT Tryz.prog 46 = 2 := by kernel_rfl
@[go_sem] theorem t46_in : (Tryz.prog.info? 46).isSome = true := by kernel_rfl
@[go_sem] theorem t46_un : (Tryz.prog.underlying 46).isSome = true := by kernel_rfl
@[go_sem] theorem t46_ze : zeroT Tryz.prog 46 = some [.int .i64 0, .int .i64 0] := by kernel_rfl
@[go_sem] theorem t46_fo : fieldsOk Tryz.prog 46 = true := by kernel_rfl
@[go_sem] theorem t49_ag : aggT Tryz.prog 49 = true := by kernel_rfl
@[go_sem] theorem t49_sz : szT Tryz.prog 49 = 3 := by kernel_rfl
@[go_sem] theorem t49_in : (Tryz.prog.info? 49).isSome = true := by kernel_rfl
@[go_sem] theorem t49_un : (Tryz.prog.underlying 49).isSome = true := by kernel_rfl
@[go_sem] theorem t49_ze : zeroT Tryz.prog 49 = some [.int .i64 0, .int .i64 0, .int .i64 0] := by kernel_rfl
@[go_sem] theorem t49_by : Tryz.prog.bytesOf 49 = 24 := by kernel_rfl
@[go_sem] theorem t49_fo : fieldsOk Tryz.prog 49 = true := by kernel_rfl
@[go_sem] theorem t91_ag : aggT Tryz.prog 91 = false := by kernel_rfl
@[go_sem] theorem t91_sz : szT Tryz.prog 91 = 1 := by kernel_rfl
@[go_sem] theorem t91_in : (Tryz.prog.info? 91).isSome = true := by kernel_rfl
@[go_sem] theorem t91_un : (Tryz.prog.underlying 91).isSome = true := by kernel_rfl
@[go_sem] theorem t91_ze : zeroT Tryz.prog 91 = some [.sl none 0] := by kernel_rfl
@[go_sem] theorem t110_ag : aggT Tryz.prog 110 = false := by kernel_rfl
@[go_sem] theorem t110_sz : szT Tryz.prog 110 = 1 := by kernel_rfl
@[go_sem] theorem t110_in : (Tryz.prog.info? 110).isSome = true := by kernel_rfl
@[go_sem] theorem t110_un : (Tryz.prog.underlying 110).isSome = true := by kernel_rfl
@[go_sem] theorem t112_ze : zeroT Tryz.prog 112 = some [.ptr none, .sl none 0] := by kernel_rfl
@[go_sem] theorem t268_un : (Tryz.prog.underlying 268).isSome = true := by kernel_rfl
@[go_sem] theorem t25_f0 : fieldT Tryz.prog 25 0 = some (0, 1) := by kernel_rfl
@[go_sem] theorem t25_f1 : fieldT Tryz.prog 25 1 = some (1, 1) := by kernel_rfl
@[go_sem] theorem t46_f0 : fieldT Tryz.prog 46 0 = some (0, 1) := by kernel_rfl
@[go_sem] theorem t46_f1 : fieldT Tryz.prog 46 1 = some (1, 1) := by kernel_rfl
@[go_sem] theorem t49_f0 : fieldT Tryz.prog 49 0 = some (0, 1) := by kernel_rfl
@[go_sem] theorem t49_f1 : fieldT Tryz.prog 49 1 = some (1, 1) := by kernel_rfl
@[go_sem] theorem t49_f2 : fieldT Tryz.prog 49 2 = some (2, 1) := by kernel_rfl
@[go_sem] theorem t112_f1 : fieldT Tryz.prog 112 1 = some (1, 1) := by kernel_rfl
@[go_sem] theorem t9_st : strT Tryz.prog 9 = true := by kernel_rfl
@[go_sem] theorem t9_el : elemT Tryz.prog 9 = none := by kernel_rfl
@[go_sem] theorem t9_us : Tryz.prog.underlying 9 = some .string := by kernel_rfl
@[go_sem] theorem t22_el : elemT Tryz.prog 22 = some 3 := by kernel_rfl
@[go_sem] theorem t70_el : elemT Tryz.prog 70 = some 9 := by kernel_rfl
@[go_sem] theorem t70_st : strT Tryz.prog 70 = false := by kernel_rfl
@[go_sem] theorem t91_el : elemT Tryz.prog 91 = some 49 := by kernel_rfl
@[go_sem] theorem t91_st : strT Tryz.prog 91 = false := by kernel_rfl
@[go_sem] theorem t110_el : elemT Tryz.prog 110 = some 5 := by kernel_rfl
@[go_sem] theorem t150_el : elemT Tryz.prog 150 = some 30 := by kernel_rfl
@[go_sem] theorem t185_el : elemT Tryz.prog 185 = some 91 := by kernel_rfl
@[go_sem] theorem t3_ik : intK Tryz.prog 3 = some .i64 := by kernel_rfl
@[go_sem] theorem t5_ik : intK Tryz.prog 5 = some .u8 := by kernel_rfl
@[go_sem] theorem t198_ik : intK Tryz.prog 198 = some .u64 := by kernel_rfl
@[go_sem] theorem t3_bt : bytesT Tryz.prog 3 = false := by kernel_rfl
@[go_sem] theorem t5_bt : bytesT Tryz.prog 5 = false := by kernel_rfl
@[go_sem] theorem t198_bt : bytesT Tryz.prog 198 = false := by kernel_rfl
@[go_sem] theorem t268_bt : bytesT Tryz.prog 268 = false := by kernel_rfl
@[go_sem] theorem t49_fk : fieldsK Tryz.prog 49 = some [(0, 1), (1, 1), (2, 1)] := by kernel_rfl
@[go_sem] theorem t114_kd : kindT Tryz.prog 114 = 6 := by kernel_rfl
@[go_sem] theorem f7_rs : Tryz.f7.results.toList = [.tmp 2] := by kernel_rfl
@[go_sem] theorem f7_nt : Tryz.f7.ntmps = 115 := by kernel_rfl
@[go_sem] theorem f47_en : entersB Tryz.prog 47 = true := by kernel_rfl
@[go_sem] theorem f47_rs : Tryz.f47.results.toList = [.tmp 6] := by kernel_rfl
@[go_sem] theorem f47_nt : Tryz.f47.ntmps = 19 := by kernel_rfl
@[go_sem] theorem f56_en : entersB Tryz.prog 56 = true := by kernel_rfl
@[go_sem] theorem f56_rs : Tryz.f56.results.toList = [.tmp 4] := by kernel_rfl
@[go_sem] theorem f56_nt : Tryz.f56.ntmps = 39 := by kernel_rfl
@[go_sem] theorem f57_en : entersB Tryz.prog 57 = true := by kernel_rfl
@[go_sem] theorem f57_rs : Tryz.f57.results.toList = [.tmp 4, .tmp 5] := by kernel_rfl
@[go_sem] theorem f57_nt : Tryz.f57.ntmps = 29 := by kernel_rfl
@[go_sem] theorem f58_en : entersB Tryz.prog 58 = true := by kernel_rfl
@[go_sem] theorem f58_rs : Tryz.f58.results.toList = [.tmp 2, .tmp 3] := by kernel_rfl
@[go_sem] theorem f58_nt : Tryz.f58.ntmps = 27 := by kernel_rfl
@[go_sem] theorem f59_en : entersB Tryz.prog 59 = true := by kernel_rfl
@[go_sem] theorem f59_rs : Tryz.f59.results.toList = [.tmp 2, .tmp 3, .tmp 4] := by kernel_rfl
@[go_sem] theorem f59_nt : Tryz.f59.ntmps = 27 := by kernel_rfl
@[go_sem] theorem f60_en : entersB Tryz.prog 60 = true := by kernel_rfl
@[go_sem] theorem f60_rs : Tryz.f60.results.toList = [.tmp 4, .tmp 5] := by kernel_rfl
@[go_sem] theorem f60_nt : Tryz.f60.ntmps = 16 := by kernel_rfl
@[go_sem] theorem f61_en : entersB Tryz.prog 61 = true := by kernel_rfl
@[go_sem] theorem f61_rs : Tryz.f61.results.toList = [.tmp 2] := by kernel_rfl
@[go_sem] theorem f61_nt : Tryz.f61.ntmps = 15 := by kernel_rfl
@[go_sem] theorem f62_en : entersB Tryz.prog 62 = true := by kernel_rfl
@[go_sem] theorem f62_rs : Tryz.f62.results.toList = [.tmp 4] := by kernel_rfl
@[go_sem] theorem f62_nt : Tryz.f62.ntmps = 26 := by kernel_rfl
@[go_sem] theorem f63_en : entersB Tryz.prog 63 = true := by kernel_rfl
@[go_sem] theorem f63_rs : Tryz.f63.results.toList = [.tmp 2] := by kernel_rfl
@[go_sem] theorem f63_nt : Tryz.f63.ntmps = 36 := by kernel_rfl
@[go_sem] theorem f64_en : entersB Tryz.prog 64 = true := by kernel_rfl
@[go_sem] theorem f64_rs : Tryz.f64.results.toList = [.tmp 2] := by kernel_rfl
@[go_sem] theorem f64_nt : Tryz.f64.ntmps = 35 := by kernel_rfl
@[go_sem] theorem f65_en : entersB Tryz.prog 65 = true := by kernel_rfl
@[go_sem] theorem f69_en : entersB Tryz.prog 69 = true := by kernel_rfl
@[go_sem] theorem f69_rs : Tryz.f69.results.toList = [.tmp 4] := by kernel_rfl
@[go_sem] theorem f69_nt : Tryz.f69.ntmps = 12 := by kernel_rfl
@[go_sem] theorem f73_en : entersB Tryz.prog 73 = true := by kernel_rfl
@[go_sem] theorem f73_rs : Tryz.f73.results.toList = [.tmp 4] := by kernel_rfl
@[go_sem] theorem f73_nt : Tryz.f73.ntmps = 64 := by kernel_rfl
@[go_sem] theorem f78_en : entersB Tryz.prog 78 = true := by kernel_rfl
@[go_sem] theorem f78_rs : Tryz.f78.results.toList = [.tmp 4, .tmp 5] := by kernel_rfl
@[go_sem] theorem f78_nt : Tryz.f78.ntmps = 19 := by kernel_rfl
@[go_sem] theorem f79_en : entersB Tryz.prog 79 = true := by kernel_rfl
@[go_sem] theorem f80_en : entersB Tryz.prog 80 = true := by kernel_rfl
@[go_sem] theorem f80_rs : Tryz.f80.results.toList = [.tmp 2] := by kernel_rfl
@[go_sem] theorem f80_nt : Tryz.f80.ntmps = 8 := by kernel_rfl
@[go_sem] theorem f81_en : entersB Tryz.prog 81 = true := by kernel_rfl
@[go_sem] theorem f85_en : entersB Tryz.prog 85 = true := by kernel_rfl
@[go_sem] theorem f85_rs : Tryz.f85.results.toList = [.tmp 4, .tmp 5] := by kernel_rfl
@[go_sem] theorem f85_nt : Tryz.f85.ntmps = 39 := by kernel_rfl
@[go_sem] theorem f87_en : entersB Tryz.prog 87 = true := by kernel_rfl
@[go_sem] theorem f87_rs : Tryz.f87.results.toList = [.tmp 4, .tmp 5] := by kernel_rfl
@[go_sem] theorem f87_nt : Tryz.f87.ntmps = 25 := by kernel_rfl
@[go_sem] theorem f88_en : entersB Tryz.prog 88 = true := by kernel_rfl
@[go_sem] theorem f88_rs : Tryz.f88.results.toList = [.tmp 4, .tmp 5] := by kernel_rfl
@[go_sem] theorem f88_nt : Tryz.f88.ntmps = 31 := by kernel_rfl
@[go_sem] theorem f91_en : entersB Tryz.prog 91 = true := by kernel_rfl
@[go_sem] theorem f91_rs : Tryz.f91.results.toList = [.tmp 4] := by kernel_rfl
@[go_sem] theorem f91_nt : Tryz.f91.ntmps = 8 := by kernel_rfl
@[go_sem] theorem f92_en : entersB Tryz.prog 92 = true := by kernel_rfl
@[go_sem] theorem f99_en : entersB Tryz.prog 99 = true := by kernel_rfl
@[go_sem] theorem f99_rs : Tryz.f99.results.toList = [.tmp 2] := by kernel_rfl
@[go_sem] theorem f99_nt : Tryz.f99.ntmps = 6 := by kernel_rfl
@[go_sem] theorem f106_en : entersB Tryz.prog 106 = true := by kernel_rfl
@[go_sem] theorem f106_rs : Tryz.f106.results.toList = [.tmp 2] := by kernel_rfl
@[go_sem] theorem f106_nt : Tryz.f106.ntmps = 15 := by kernel_rfl
@[go_sem] theorem f111_en : entersB Tryz.prog 111 = true := by kernel_rfl
@[go_sem] theorem f111_rs : Tryz.f111.results.toList = [.tmp 4] := by kernel_rfl
@[go_sem] theorem f111_nt : Tryz.f111.ntmps = 15 := by kernel_rfl
@[go_sem] theorem f136_en : entersB Tryz.prog 136 = true := by kernel_rfl
@[go_sem] theorem f136_rs : Tryz.f136.results.toList = [.tmp 2] := by kernel_rfl
@[go_sem] theorem f136_nt : Tryz.f136.ntmps = 16 := by kernel_rfl
@[go_sem] theorem f148_en : entersB Tryz.prog 148 = true := by kernel_rfl
@[go_sem] theorem f148_rs : Tryz.f148.results.toList = [] := by kernel_rfl
@[go_sem] theorem f148_nt : Tryz.f148.ntmps = 14 := by kernel_rfl
@[go_sem] theorem f149_rs : Tryz.f149.results.toList = [.tmp 4] := by kernel_rfl
@[go_sem] theorem f149_nt : Tryz.f149.ntmps = 22 := by kernel_rfl
@[go_sem] theorem f150_en : entersB Tryz.prog 150 = true := by kernel_rfl
@[go_sem] theorem f150_rs : Tryz.f150.results.toList = [.tmp 4] := by kernel_rfl
@[go_sem] theorem f150_nt : Tryz.f150.ntmps = 66 := by kernel_rfl
@[go_sem] theorem f151_rs : Tryz.f151.results.toList = [.tmp 4] := by kernel_rfl
@[go_sem] theorem f151_nt : Tryz.f151.ntmps = 10 := by kernel_rfl
@[go_sem] theorem f152_rs : Tryz.f152.results.toList = [.tmp 3] := by kernel_rfl
@[go_sem] theorem f152_nt : Tryz.f152.ntmps = 24 := by kernel_rfl
@[go_sem] theorem f153_en : entersB Tryz.prog 153 = true := by kernel_rfl
@[go_sem] theorem f153_rs : Tryz.f153.results.toList = [.cell 2 49, .tmp 3] := by kernel_rfl
@[go_sem] theorem f153_nt : Tryz.f153.ntmps = 35 := by kernel_rfl
@[go_sem] theorem f154_en : entersB Tryz.prog 154 = true := by kernel_rfl
@[go_sem] theorem f154_rs : Tryz.f154.results.toList = [.tmp 4] := by kernel_rfl
@[go_sem] theorem f154_nt : Tryz.f154.ntmps = 16 := by kernel_rfl
@[go_sem] theorem f155_en : entersB Tryz.prog 155 = true := by kernel_rfl
@[go_sem] theorem f155_rs : Tryz.f155.results.toList = [.tmp 4] := by kernel_rfl
@[go_sem] theorem f155_nt : Tryz.f155.ntmps = 24 := by kernel_rfl
@[go_sem] theorem f156_en : entersB Tryz.prog 156 = true := by kernel_rfl
@[go_sem] theorem f156_rs : Tryz.f156.results.toList = [.tmp 4] := by kernel_rfl
@[go_sem] theorem f156_nt : Tryz.f156.ntmps = 27 := by kernel_rfl
@[go_sem] theorem f157_en : entersB Tryz.prog 157 = true := by kernel_rfl
@[go_sem] theorem f157_rs : Tryz.f157.results.toList = [.tmp 2] := by kernel_rfl
@[go_sem] theorem f157_nt : Tryz.f157.ntmps = 25 := by kernel_rfl
@[go_sem] theorem f160_en : entersB Tryz.prog 160 = true := by kernel_rfl
@[go_sem] theorem f160_rs : Tryz.f160.results.toList = [.tmp 4] := by kernel_rfl
@[go_sem] theorem f160_nt : Tryz.f160.ntmps = 8 := by kernel_rfl
@[go_sem] theorem f164_en : entersB Tryz.prog 164 = true := by kernel_rfl
@[go_sem] theorem f164_rs : Tryz.f164.results.toList = [.tmp 4] := by kernel_rfl
@[go_sem] theorem f164_nt : Tryz.f164.ntmps = 16 := by kernel_rfl
@[go_sem] theorem f166_en : entersB Tryz.prog 166 = true := by kernel_rfl
@[go_sem] theorem f169_en : entersB Tryz.prog 169 = true := by kernel_rfl
@[go_sem] theorem f169_rs : Tryz.f169.results.toList = [.tmp 6] := by kernel_rfl
@[go_sem] theorem f169_nt : Tryz.f169.ntmps = 15 := by kernel_rfl
@[go_sem] theorem f170_en : entersB Tryz.prog 170 = true := by kernel_rfl
@[go_sem] theorem f170_rs : Tryz.f170.results.toList = [.tmp 2, .tmp 3] := by kernel_rfl
@[go_sem] theorem f170_nt : Tryz.f170.ntmps = 15 := by kernel_rfl
@[go_sem] theorem f171_en : entersB Tryz.prog 171 = true := by kernel_rfl
@[go_sem] theorem f171_rs : Tryz.f171.results.toList = [.tmp 4, .tmp 5] := by kernel_rfl
@[go_sem] theorem f171_nt : Tryz.f171.ntmps = 61 := by kernel_rfl
@[go_sem] theorem f173_en : entersB Tryz.prog 173 = true := by kernel_rfl
@[go_sem] theorem f173_rs : Tryz.f173.results.toList = [.tmp 8] := by kernel_rfl
@[go_sem] theorem f173_nt : Tryz.f173.ntmps = 66 := by kernel_rfl
@[go_sem] theorem f194_en : entersB Tryz.prog 194 = true := by kernel_rfl
@[go_sem] theorem f194_rs : Tryz.f194.results.toList = [.tmp 2] := by kernel_rfl
@[go_sem] theorem f194_nt : Tryz.f194.ntmps = 14 := by kernel_rfl
@[go_sem] theorem f199_en : entersB Tryz.prog 199 = true := by kernel_rfl
@[go_sem] theorem f199_rs : Tryz.f199.results.toList = [.tmp 2] := by kernel_rfl
@[go_sem] theorem f199_nt : Tryz.f199.ntmps = 8 := by kernel_rfl
@[go_sem] theorem f221_en : entersB Tryz.prog 221 = true := by kernel_rfl
@[go_sem] theorem f221_rs : Tryz.f221.results.toList = [.tmp 2] := by kernel_rfl
@[go_sem] theorem f221_nt : Tryz.f221.ntmps = 8 := by kernel_rfl
@[go_sem] theorem f231_en : entersB Tryz.prog 231 = true := by kernel_rfl
@[go_sem] theorem f231_rs : Tryz.f231.results.toList = [] := by kernel_rfl
@[go_sem] theorem f231_nt : Tryz.f231.ntmps = 148 := by kernel_rfl
@[go_sem] theorem f232_en : entersB Tryz.prog 232 = true := by kernel_rfl
@[go_sem] theorem f232_rs : Tryz.f232.results.toList = [.tmp 2] := by kernel_rfl
@[go_sem] theorem f232_nt : Tryz.f232.ntmps = 18 := by kernel_rfl
@[go_sem] theorem f233_en : entersB Tryz.prog 233 = true := by kernel_rfl
@[go_sem] theorem f233_rs : Tryz.f233.results.toList = [.tmp 4] := by kernel_rfl
@[go_sem] theorem f233_nt : Tryz.f233.ntmps = 20 := by kernel_rfl
@[go_sem] theorem f235_en : entersB Tryz.prog 235 = true := by kernel_rfl
@[go_sem] theorem f235_rs : Tryz.f235.results.toList = [.tmp 4] := by kernel_rfl
@[go_sem] theorem f235_nt : Tryz.f235.ntmps = 143 := by kernel_rfl
@[go_sem] theorem f238_en : entersB Tryz.prog 238 = true := by kernel_rfl
@[go_sem] theorem f238_rs : Tryz.f238.results.toList = [.tmp 4, .tmp 5] := by kernel_rfl
@[go_sem] theorem f238_nt : Tryz.f238.ntmps = 11 := by kernel_rfl
@[go_sem] theorem f239_en : entersB Tryz.prog 239 = true := by kernel_rfl
@[go_sem] theorem f239_rs : Tryz.f239.results.toList = [.tmp 4] := by kernel_rfl
@[go_sem] theorem f239_nt : Tryz.f239.ntmps = 8 := by kernel_rfl
@[go_sem] theorem f242_en : entersB Tryz.prog 242 = true := by kernel_rfl
@[go_sem] theorem f242_rs : Tryz.f242.results.toList = [.tmp 4] := by kernel_rfl
@[go_sem] theorem f242_nt : Tryz.f242.ntmps = 34 := by kernel_rfl
@[go_sem] theorem f251_en : entersB Tryz.prog 251 = true := by kernel_rfl
@[go_sem] theorem f251_rs : Tryz.f251.results.toList = [.tmp 4] := by kernel_rfl
@[go_sem] theorem f251_nt : Tryz.f251.ntmps = 18 := by kernel_rfl
@[go_sem] theorem f271_en : entersB Tryz.prog 271 = true := by kernel_rfl
@[go_sem] theorem f271_rs : Tryz.f271.results.toList = [.tmp 2] := by kernel_rfl
@[go_sem] theorem f271_nt : Tryz.f271.ntmps = 25 := by kernel_rfl
@[go_sem] theorem f282_en : entersB Tryz.prog 282 = true := by kernel_rfl
@[go_sem] theorem f282_rs : Tryz.f282.results.toList = [] := by kernel_rfl
@[go_sem] theorem f282_nt : Tryz.f282.ntmps = 53 := by kernel_rfl
@[go_sem] theorem f290_en : entersB Tryz.prog 290 = true := by kernel_rfl
@[go_sem] theorem f290_rs : Tryz.f290.results.toList = [.tmp 2] := by kernel_rfl
@[go_sem] theorem f290_nt : Tryz.f290.ntmps = 6 := by kernel_rfl
@[go_sem] theorem f291_en : entersB Tryz.prog 291 = true := by kernel_rfl
@[go_sem] theorem f291_rs : Tryz.f291.results.toList = [.tmp 4] := by kernel_rfl
@[go_sem] theorem f291_nt : Tryz.f291.ntmps = 8 := by kernel_rfl
@[go_sem] theorem f299_en : entersB Tryz.prog 299 = true := by kernel_rfl
@[go_sem] theorem f299_rs : Tryz.f299.results.toList = [.tmp 4, .tmp 5] := by kernel_rfl
@[go_sem] theorem f299_nt : Tryz.f299.ntmps = 18 := by kernel_rfl
@[go_sem] theorem f300_en : entersB Tryz.prog 300 = true := by kernel_rfl
@[go_sem] theorem f300_rs : Tryz.f300.results.toList = [.tmp 4] := by kernel_rfl
@[go_sem] theorem f300_nt : Tryz.f300.ntmps = 13 := by kernel_rfl
@[go_sem] theorem f339_en : entersB Tryz.prog 339 = true := by kernel_rfl
@[go_sem] theorem f339_rs : Tryz.f339.results.toList = [.tmp 4] := by kernel_rfl
@[go_sem] theorem f339_nt : Tryz.f339.ntmps = 21 := by kernel_rfl
@[go_sem] theorem f303_en : entersB Tryz.prog 303 = false := by kernel_rfl
@[go_sem] theorem f333_en : entersB Tryz.prog 333 = false := by kernel_rfl
end Go.Proofs.YtebhpfhichdgaaaGreatDoor
