/- PCode of functions, written by wip/tools/gen.py out of the loaded functions' print. -/
import Derived.Test.YtiaeckidlmoohaaGreatPmTwentyFive
import Derived.Test.YtiaeckidlmoohaaGreatPmTwentySeven
import Derived.Test.YtiaeckidlmoohaaGreatProg
import Derived.KernelRfl
set_option maxRecDepth 100000
namespace Go.Proofs.YtiaeckidlmoohaaGreat
open Go.Proofs.YtiaeckidlmoohaaGreat.PM

/-- hinterland/rail.Back -/
def pf170 : PFn := ⟨20, 1, [.cell 2 (some 3), .tmp 3], .seq
(.reg [⟨some 1, none, .boxm 54 (.tmp 0)⟩,
⟨some 2, none, .zer 54 (.agg [(.int .i64 0), (.int .i64 0), (.int .i64 0)])⟩,
⟨some 3, none, .mv (.val (.int .i64 0))⟩] [] [1, 2])
(.seq
(.reg [⟨some 7, none, .faddr 1 (.tmp 1)⟩,
⟨some 8, none, .ld none (.tmp 7)⟩,
⟨some 9, none, .faddr 2 (.tmp 1)⟩,
⟨some 10, none, .ld none (.tmp 9)⟩,
⟨some 11, none, .call 158 .pure [(.tmp 8), (.tmp 10)]⟩,
⟨some 6, none, .mv (.tmp 11)⟩,
⟨some 12, none, .ext 0 (.tmp 6)⟩,
⟨some 13, none, .ext 1 (.tmp 6)⟩,
⟨some 4, none, .mv (.tmp 12)⟩,
⟨some 5, none, .mv (.tmp 13)⟩] [] [1, 2, 4, 5])
(.seq
(.seq
(.reg [⟨some 14, none, .mv (.tmp 5)⟩,
⟨some 15, none, .un .not (.tmp 14)⟩] [] [1, 2, 4, 15])
(.cond (.tmp 15)
(.seq
(.reg [⟨some 16, none, .bld [(.int .i64 0), (.int .i64 0), (.int .i64 0)] []⟩,
⟨none, none, .st 3 (.tmp 2) (.tmp 16)⟩,
⟨some 3, none, .mv (.val (.int .i64 1))⟩] [] [2, 3])
(.ret))
(.skip)))
(.seq
(.reg [⟨some 17, none, .mv (.tmp 4)⟩,
⟨some 18, none, .faddr 2 (.tmp 1)⟩,
⟨none, none, .st 1 (.tmp 18) (.tmp 17)⟩] [] [1, 2])
(.seq
(.reg [⟨some 19, none, .ld (some 3) (.tmp 1)⟩,
⟨none, none, .st 3 (.tmp 2) (.tmp 19)⟩,
⟨some 3, none, .mv (.val (.int .i64 0))⟩] [] [2, 3])
(.ret)))))⟩
theorem pf170_ok : fnOk Tryz.prog 170 pf170 = true := by kernel_rfl

/-- hinterland/rail.tile -/
def pf171 : PFn := ⟨16, 2, [.tmp 4], .seq
(.reg [⟨some 2, none, .boxp 25 (.tmp 0)⟩,
⟨some 4, none, .mv (.val (.bool false))⟩] [] [1, 2])
(.seq
(.reg [⟨some 5, none, .mv (.tmp 1)⟩,
⟨some 6, none, .bin .geq (.tmp 5) (.val (.int .i64 0))⟩,
⟨some 7, none, .mv (.tmp 6)⟩,
⟨some 8, (some (7, true)), .mv (.tmp 1)⟩,
⟨some 9, (some (7, true)), .faddr 0 (.tmp 2)⟩,
⟨some 10, (some (7, true)), .ld none (.tmp 9)⟩,
⟨some 11, (some (7, true)), .faddr 1 (.tmp 2)⟩,
⟨some 12, (some (7, true)), .ld none (.tmp 11)⟩,
⟨some 13, (some (7, true)), .bin .mul (.tmp 10) (.tmp 12)⟩,
⟨some 14, (some (7, true)), .bin .lss (.tmp 8) (.tmp 13)⟩,
⟨some 15, none, .pick (.tmp 7) (.tmp 14) (.val (.bool false))⟩,
⟨some 4, none, .mv (.tmp 15)⟩] [] [4])
(.ret))⟩
theorem pf171_ok : fnOk Tryz.prog 171 pf171 = true := by kernel_rfl

/-- slices.insertionSortCmpFunc[hinterland/api.Spot] -/
def pf172 : PFn := ⟨53, 4, [], .seq
(.reg [⟨some 10, none, .mv (.tmp 1)⟩,
⟨some 11, none, .bin .add (.tmp 10) (.val (.int .i64 1))⟩,
⟨some 8, none, .mv (.tmp 11)⟩] [] [0, 1, 2, 3, 8])
(.blk 0 (.loop (.seq
(.seq
(.reg [⟨some 12, none, .mv (.tmp 8)⟩,
⟨some 13, none, .mv (.tmp 2)⟩,
⟨some 14, none, .bin .lss (.tmp 12) (.tmp 13)⟩] [] [0, 1, 2, 3, 8, 14])
(.cond (.tmp 14)
(.skip)
(.ext 0)))
(.seq
(.blk 1 (.seq
(.reg [⟨some 17, none, .mv (.tmp 8)⟩,
⟨some 9, none, .mv (.tmp 17)⟩] [] [0, 1, 2, 3, 8, 9])
(.blk 2 (.loop (.seq
(.seq
(.reg [⟨some 18, none, .mv (.tmp 9)⟩,
⟨some 19, none, .mv (.tmp 1)⟩,
⟨some 20, none, .bin .gtr (.tmp 18) (.tmp 19)⟩,
⟨some 21, none, .mv (.tmp 20)⟩,
⟨some 22, (some (21, true)), .mv (.tmp 3)⟩,
⟨some 23, (some (21, true)), .mv (.tmp 0)⟩,
⟨some 24, (some (21, true)), .mv (.tmp 9)⟩,
⟨some 25, (some (21, true)), .iaS 3 (.tmp 23) (.tmp 24)⟩,
⟨some 26, (some (21, true)), .ld (some 3) (.tmp 25)⟩,
⟨some 27, (some (21, true)), .mv (.tmp 0)⟩,
⟨some 28, (some (21, true)), .mv (.tmp 9)⟩,
⟨some 29, (some (21, true)), .bin .sub (.tmp 28) (.val (.int .i64 1))⟩,
⟨some 30, (some (21, true)), .iaS 3 (.tmp 27) (.tmp 29)⟩,
⟨some 31, (some (21, true)), .ld (some 3) (.tmp 30)⟩,
⟨some 32, (some (21, true)), .callv (.tmp 22) .pure [(.tmp 26), (.tmp 31)]⟩,
⟨some 33, (some (21, true)), .bin .lss (.tmp 32) (.val (.int .i64 0))⟩,
⟨some 34, none, .pick (.tmp 21) (.tmp 33) (.val (.bool false))⟩] [] [0, 1, 2, 3, 8, 9, 34])
(.cond (.tmp 34)
(.skip)
(.ext 2)))
(.seq
(.blk 3 (.reg [⟨some 37, none, .mv (.tmp 0)⟩,
⟨some 38, none, .mv (.tmp 9)⟩,
⟨some 39, none, .mv (.tmp 0)⟩,
⟨some 40, none, .mv (.tmp 9)⟩,
⟨some 41, none, .bin .sub (.tmp 40) (.val (.int .i64 1))⟩,
⟨some 42, none, .mv (.tmp 0)⟩,
⟨some 43, none, .mv (.tmp 9)⟩,
⟨some 44, none, .bin .sub (.tmp 43) (.val (.int .i64 1))⟩,
⟨some 45, none, .iaS 3 (.tmp 42) (.tmp 44)⟩,
⟨some 46, none, .ld (some 3) (.tmp 45)⟩,
⟨some 47, none, .mv (.tmp 0)⟩,
⟨some 48, none, .mv (.tmp 9)⟩,
⟨some 49, none, .iaS 3 (.tmp 47) (.tmp 48)⟩,
⟨some 50, none, .ld (some 3) (.tmp 49)⟩,
⟨some 51, none, .iaS 3 (.tmp 37) (.tmp 38)⟩,
⟨none, none, .st 3 (.tmp 51) (.tmp 46)⟩,
⟨some 52, none, .iaS 3 (.tmp 39) (.tmp 41)⟩,
⟨none, none, .st 3 (.tmp 52) (.tmp 50)⟩] [] [0, 1, 2, 3, 8, 9]))
(.reg [⟨some 35, none, .mv (.tmp 9)⟩,
⟨some 36, none, .bin .sub (.tmp 35) (.val (.int .i64 1))⟩,
⟨some 9, none, .mv (.tmp 36)⟩] [] [0, 1, 2, 3, 8, 9])))))))
(.reg [⟨some 15, none, .mv (.tmp 8)⟩,
⟨some 16, none, .bin .add (.tmp 15) (.val (.int .i64 1))⟩,
⟨some 8, none, .mv (.tmp 16)⟩] [] [0, 1, 2, 3, 8])))))⟩
theorem pf172_ok : fnOk Tryz.prog 172 pf172 = true := by kernel_rfl

/-- slices.heapSortCmpFunc[hinterland/api.Spot] -/
def pf173 : PFn := ⟨60, 4, [], .seq
(.reg [⟨some 13, none, .mv (.tmp 1)⟩,
⟨some 8, none, .mv (.tmp 13)⟩] [] [0, 1, 2, 3, 8])
(.seq
(.reg [⟨some 9, none, .mv (.val (.int .i64 0))⟩] [] [0, 1, 2, 3, 8, 9])
(.seq
(.reg [⟨some 14, none, .mv (.tmp 2)⟩,
⟨some 15, none, .mv (.tmp 1)⟩,
⟨some 16, none, .bin .sub (.tmp 14) (.tmp 15)⟩,
⟨some 10, none, .mv (.tmp 16)⟩] [] [0, 3, 8, 9, 10])
(.seq
(.seq
(.reg [⟨some 17, none, .mv (.tmp 10)⟩,
⟨some 18, none, .bin .sub (.tmp 17) (.val (.int .i64 1))⟩,
⟨some 19, none, .bin .quo (.tmp 18) (.val (.int .i64 2))⟩,
⟨some 11, none, .mv (.tmp 19)⟩] [] [0, 3, 8, 9, 10, 11])
(.blk 0 (.loop (.seq
(.seq
(.reg [⟨some 20, none, .mv (.tmp 11)⟩,
⟨some 21, none, .bin .geq (.tmp 20) (.val (.int .i64 0))⟩] [] [0, 3, 8, 9, 10, 11, 21])
(.cond (.tmp 21)
(.skip)
(.ext 0)))
(.seq
(.blk 1 (.reg [⟨some 24, none, .mv (.tmp 0)⟩,
⟨some 25, none, .mv (.tmp 11)⟩,
⟨some 26, none, .mv (.tmp 10)⟩,
⟨some 27, none, .mv (.tmp 8)⟩,
⟨some 28, none, .mv (.tmp 3)⟩,
⟨some 29, none, .call 197 .opn [(.tmp 24), (.tmp 25), (.tmp 26), (.tmp 27), (.tmp 28)]⟩] [] [0, 3, 8, 9, 10, 11]))
(.reg [⟨some 22, none, .mv (.tmp 11)⟩,
⟨some 23, none, .bin .sub (.tmp 22) (.val (.int .i64 1))⟩,
⟨some 11, none, .mv (.tmp 23)⟩] [] [0, 3, 8, 9, 10, 11]))))))
(.seq
(.reg [⟨some 30, none, .mv (.tmp 10)⟩,
⟨some 31, none, .bin .sub (.tmp 30) (.val (.int .i64 1))⟩,
⟨some 12, none, .mv (.tmp 31)⟩] [] [0, 3, 8, 9, 12])
(.blk 2 (.loop (.seq
(.seq
(.reg [⟨some 32, none, .mv (.tmp 12)⟩,
⟨some 33, none, .bin .geq (.tmp 32) (.val (.int .i64 0))⟩] [] [0, 3, 8, 9, 12, 33])
(.cond (.tmp 33)
(.skip)
(.ext 2)))
(.seq
(.blk 3 (.seq
(.reg [⟨some 36, none, .mv (.tmp 0)⟩,
⟨some 37, none, .mv (.tmp 8)⟩,
⟨some 38, none, .mv (.tmp 0)⟩,
⟨some 39, none, .mv (.tmp 8)⟩,
⟨some 40, none, .mv (.tmp 12)⟩,
⟨some 41, none, .bin .add (.tmp 39) (.tmp 40)⟩,
⟨some 42, none, .mv (.tmp 0)⟩,
⟨some 43, none, .mv (.tmp 8)⟩,
⟨some 44, none, .mv (.tmp 12)⟩,
⟨some 45, none, .bin .add (.tmp 43) (.tmp 44)⟩,
⟨some 46, none, .iaS 3 (.tmp 42) (.tmp 45)⟩,
⟨some 47, none, .ld (some 3) (.tmp 46)⟩,
⟨some 48, none, .mv (.tmp 0)⟩,
⟨some 49, none, .mv (.tmp 8)⟩,
⟨some 50, none, .iaS 3 (.tmp 48) (.tmp 49)⟩,
⟨some 51, none, .ld (some 3) (.tmp 50)⟩,
⟨some 52, none, .iaS 3 (.tmp 36) (.tmp 37)⟩,
⟨none, none, .st 3 (.tmp 52) (.tmp 47)⟩,
⟨some 53, none, .iaS 3 (.tmp 38) (.tmp 41)⟩,
⟨none, none, .st 3 (.tmp 53) (.tmp 51)⟩] [] [0, 3, 8, 9, 12])
(.reg [⟨some 54, none, .mv (.tmp 0)⟩,
⟨some 55, none, .mv (.tmp 9)⟩,
⟨some 56, none, .mv (.tmp 12)⟩,
⟨some 57, none, .mv (.tmp 8)⟩,
⟨some 58, none, .mv (.tmp 3)⟩,
⟨some 59, none, .call 197 .opn [(.tmp 54), (.tmp 55), (.tmp 56), (.tmp 57), (.tmp 58)]⟩] [] [0, 3, 8, 9, 12])))
(.reg [⟨some 34, none, .mv (.tmp 12)⟩,
⟨some 35, none, .bin .sub (.tmp 34) (.val (.int .i64 1))⟩,
⟨some 12, none, .mv (.tmp 35)⟩] [] [0, 3, 8, 9, 12])))))))))⟩
theorem pf173_ok : fnOk Tryz.prog 173 pf173 = true := by kernel_rfl

/-- slices.breakPatternsCmpFunc[hinterland/api.Spot] -/
def pf174 : PFn := ⟨67, 4, [], .seq
(.reg [⟨some 13, none, .mv (.tmp 2)⟩,
⟨some 14, none, .mv (.tmp 1)⟩,
⟨some 15, none, .bin .sub (.tmp 13) (.tmp 14)⟩,
⟨some 8, none, .mv (.tmp 15)⟩] [] [0, 1, 8])
(.seq
(.reg [⟨some 16, none, .mv (.tmp 8)⟩,
⟨some 17, none, .bin .geq (.tmp 16) (.val (.int .i64 8))⟩] [] [0, 1, 8, 17])
(.cond (.tmp 17)
(.seq
(.reg [⟨some 18, none, .mv (.tmp 8)⟩,
⟨some 19, none, .conv .u64 (.tmp 18)⟩,
⟨some 9, none, .zer 227 (.int .u64 0)⟩,
⟨none, none, .st 1 (.tmp 9) (.tmp 19)⟩] [] [0, 1, 8, 9])
(.seq
(.reg [⟨some 20, none, .mv (.tmp 8)⟩,
⟨some 21, none, .call 198 .pure [(.tmp 20)]⟩,
⟨some 10, none, .mv (.tmp 21)⟩] [] [0, 1, 8, 9, 10])
(.seq
(.reg [⟨some 22, none, .mv (.tmp 1)⟩,
⟨some 23, none, .mv (.tmp 8)⟩,
⟨some 24, none, .bin .quo (.tmp 23) (.val (.int .i64 4))⟩,
⟨some 25, none, .bin .mul (.tmp 24) (.val (.int .i64 2))⟩,
⟨some 26, none, .bin .add (.tmp 22) (.tmp 25)⟩,
⟨some 27, none, .bin .sub (.tmp 26) (.val (.int .i64 1))⟩,
⟨some 11, none, .mv (.tmp 27)⟩] [] [0, 1, 8, 9, 10, 11])
(.blk 0 (.loop (.seq
(.seq
(.reg [⟨some 28, none, .mv (.tmp 11)⟩,
⟨some 29, none, .mv (.tmp 1)⟩,
⟨some 30, none, .mv (.tmp 8)⟩,
⟨some 31, none, .bin .quo (.tmp 30) (.val (.int .i64 4))⟩,
⟨some 32, none, .bin .mul (.tmp 31) (.val (.int .i64 2))⟩,
⟨some 33, none, .bin .add (.tmp 29) (.tmp 32)⟩,
⟨some 34, none, .bin .add (.tmp 33) (.val (.int .i64 1))⟩,
⟨some 35, none, .bin .leq (.tmp 28) (.tmp 34)⟩] [] [0, 1, 8, 9, 10, 11, 35])
(.cond (.tmp 35)
(.skip)
(.ext 0)))
(.seq
(.blk 1 (.seq
(.reg [⟨some 38, none, .call 199 .opn [(.tmp 9)]⟩,
⟨some 39, none, .mv (.tmp 10)⟩,
⟨some 40, none, .bin .sub (.tmp 39) (.val (.int .u64 1))⟩,
⟨some 41, none, .bin .and (.tmp 38) (.tmp 40)⟩,
⟨some 42, none, .conv .i64 (.tmp 41)⟩,
⟨some 12, none, .mv (.tmp 42)⟩] [] [0, 1, 8, 9, 10, 11, 12])
(.seq
(.seq
(.reg [⟨some 43, none, .mv (.tmp 12)⟩,
⟨some 44, none, .mv (.tmp 8)⟩,
⟨some 45, none, .bin .geq (.tmp 43) (.tmp 44)⟩] [] [0, 1, 8, 9, 10, 11, 12, 45])
(.cond (.tmp 45)
(.reg [⟨some 46, none, .mv (.tmp 12)⟩,
⟨some 47, none, .mv (.tmp 8)⟩,
⟨some 48, none, .bin .sub (.tmp 46) (.tmp 47)⟩,
⟨some 12, none, .mv (.tmp 48)⟩] [] [0, 1, 8, 9, 10, 11, 12])
(.skip)))
(.reg [⟨some 49, none, .mv (.tmp 0)⟩,
⟨some 50, none, .mv (.tmp 11)⟩,
⟨some 51, none, .mv (.tmp 0)⟩,
⟨some 52, none, .mv (.tmp 1)⟩,
⟨some 53, none, .mv (.tmp 12)⟩,
⟨some 54, none, .bin .add (.tmp 52) (.tmp 53)⟩,
⟨some 55, none, .mv (.tmp 0)⟩,
⟨some 56, none, .mv (.tmp 1)⟩,
⟨some 57, none, .mv (.tmp 12)⟩,
⟨some 58, none, .bin .add (.tmp 56) (.tmp 57)⟩,
⟨some 59, none, .iaS 3 (.tmp 55) (.tmp 58)⟩,
⟨some 60, none, .ld (some 3) (.tmp 59)⟩,
⟨some 61, none, .mv (.tmp 0)⟩,
⟨some 62, none, .mv (.tmp 11)⟩,
⟨some 63, none, .iaS 3 (.tmp 61) (.tmp 62)⟩,
⟨some 64, none, .ld (some 3) (.tmp 63)⟩,
⟨some 65, none, .iaS 3 (.tmp 49) (.tmp 50)⟩,
⟨none, none, .st 3 (.tmp 65) (.tmp 60)⟩,
⟨some 66, none, .iaS 3 (.tmp 51) (.tmp 54)⟩,
⟨none, none, .st 3 (.tmp 66) (.tmp 64)⟩] [] [0, 1, 8, 9, 10, 11]))))
(.reg [⟨some 36, none, .mv (.tmp 11)⟩,
⟨some 37, none, .bin .add (.tmp 36) (.val (.int .i64 1))⟩,
⟨some 11, none, .mv (.tmp 37)⟩] [] [0, 1, 8, 9, 10, 11]))))))))
(.skip)))⟩
theorem pf174_ok : fnOk Tryz.prog 174 pf174 = true := by kernel_rfl

/-- slices.choosePivotCmpFunc[hinterland/api.Spot] -/
def pf175 : PFn := ⟨63, 4, [.tmp 8, .tmp 9], .seq
(.reg [⟨some 8, none, .mv (.val (.int .i64 0))⟩,
⟨some 9, none, .mv (.val (.int .i64 0))⟩] [] [0, 1, 2, 3])
(.seq
(.reg [⟨some 15, none, .mv (.tmp 2)⟩,
⟨some 16, none, .mv (.tmp 1)⟩,
⟨some 17, none, .bin .sub (.tmp 15) (.tmp 16)⟩,
⟨some 10, none, .mv (.tmp 17)⟩] [] [0, 1, 3, 10])
(.seq
(.reg [⟨some 11, none, .zer 3 (.int .i64 0)⟩] [] [0, 1, 3, 10, 11])
(.seq
(.reg [⟨some 18, none, .mv (.tmp 1)⟩,
⟨some 19, none, .mv (.tmp 10)⟩,
⟨some 20, none, .bin .quo (.tmp 19) (.val (.int .i64 4))⟩,
⟨some 21, none, .bin .mul (.tmp 20) (.val (.int .i64 1))⟩,
⟨some 22, none, .bin .add (.tmp 18) (.tmp 21)⟩,
⟨some 12, none, .mv (.tmp 22)⟩] [] [0, 1, 3, 10, 11, 12])
(.seq
(.reg [⟨some 23, none, .mv (.tmp 1)⟩,
⟨some 24, none, .mv (.tmp 10)⟩,
⟨some 25, none, .bin .quo (.tmp 24) (.val (.int .i64 4))⟩,
⟨some 26, none, .bin .mul (.tmp 25) (.val (.int .i64 2))⟩,
⟨some 27, none, .bin .add (.tmp 23) (.tmp 26)⟩,
⟨some 13, none, .mv (.tmp 27)⟩] [] [0, 1, 3, 10, 11, 12, 13])
(.seq
(.reg [⟨some 28, none, .mv (.tmp 1)⟩,
⟨some 29, none, .mv (.tmp 10)⟩,
⟨some 30, none, .bin .quo (.tmp 29) (.val (.int .i64 4))⟩,
⟨some 31, none, .bin .mul (.tmp 30) (.val (.int .i64 3))⟩,
⟨some 32, none, .bin .add (.tmp 28) (.tmp 31)⟩,
⟨some 14, none, .mv (.tmp 32)⟩] [] [0, 3, 10, 11, 12, 13, 14])
(.seq
(.seq
(.reg [⟨some 33, none, .mv (.tmp 10)⟩,
⟨some 34, none, .bin .geq (.tmp 33) (.val (.int .i64 8))⟩] [] [0, 3, 10, 11, 12, 13, 14, 34])
(.cond (.tmp 34)
(.seq
(.seq
(.reg [⟨some 35, none, .mv (.tmp 10)⟩,
⟨some 36, none, .bin .geq (.tmp 35) (.val (.int .i64 50))⟩] [] [0, 3, 11, 12, 13, 14, 36])
(.cond (.tmp 36)
(.seq
(.reg [⟨some 37, none, .mv (.tmp 0)⟩,
⟨some 38, none, .mv (.tmp 12)⟩,
⟨some 39, none, .mv (.tmp 3)⟩,
⟨some 40, none, .call 200 .pure [(.tmp 37), (.tmp 38), (.tmp 11), (.tmp 39)]⟩,
⟨some 12, none, .mv (.tmp 40)⟩] [] [0, 3, 11, 12, 13, 14])
(.seq
(.reg [⟨some 41, none, .mv (.tmp 0)⟩,
⟨some 42, none, .mv (.tmp 13)⟩,
⟨some 43, none, .mv (.tmp 3)⟩,
⟨some 44, none, .call 200 .pure [(.tmp 41), (.tmp 42), (.tmp 11), (.tmp 43)]⟩,
⟨some 13, none, .mv (.tmp 44)⟩] [] [0, 3, 11, 12, 13, 14])
(.reg [⟨some 45, none, .mv (.tmp 0)⟩,
⟨some 46, none, .mv (.tmp 14)⟩,
⟨some 47, none, .mv (.tmp 3)⟩,
⟨some 48, none, .call 200 .pure [(.tmp 45), (.tmp 46), (.tmp 11), (.tmp 47)]⟩,
⟨some 14, none, .mv (.tmp 48)⟩] [] [0, 3, 11, 12, 13, 14])))
(.skip)))
(.reg [⟨some 49, none, .mv (.tmp 0)⟩,
⟨some 50, none, .mv (.tmp 12)⟩,
⟨some 51, none, .mv (.tmp 13)⟩,
⟨some 52, none, .mv (.tmp 14)⟩,
⟨some 53, none, .mv (.tmp 3)⟩,
⟨some 54, none, .call 201 .pure [(.tmp 49), (.tmp 50), (.tmp 51), (.tmp 52), (.tmp 11), (.tmp 53)]⟩,
⟨some 13, none, .mv (.tmp 54)⟩] [] [11, 13]))
(.skip)))
(.seq
(.reg [⟨some 55, none, .ld none (.tmp 11)⟩] [] [13, 55])
(.blk 0 (.seq
(.reg [⟨some 58, none, .bin .eql (.tmp 55) (.val (.int .i64 0))⟩,
⟨some 57, none, .mv (.tmp 58)⟩] [] [13, 55, 57])
(.cond (.tmp 57)
(.seq
(.reg [⟨some 59, none, .mv (.tmp 13)⟩,
⟨some 8, none, .mv (.tmp 59)⟩,
⟨some 9, none, .mv (.val (.int .i64 1))⟩] [] [8, 9])
(.ret))
(.seq
(.reg [⟨some 61, none, .bin .eql (.tmp 55) (.val (.int .i64 12))⟩,
⟨some 60, none, .mv (.tmp 61)⟩] [] [13, 60])
(.cond (.tmp 60)
(.seq
(.reg [⟨some 62, none, .mv (.tmp 13)⟩,
⟨some 8, none, .mv (.tmp 62)⟩,
⟨some 9, none, .mv (.val (.int .i64 2))⟩] [] [8, 9])
(.ret))
(.seq
(.reg [⟨some 56, none, .mv (.tmp 13)⟩,
⟨some 8, none, .mv (.tmp 56)⟩,
⟨some 9, none, .mv (.val (.int .i64 0))⟩] [] [8, 9])
(.ret))))))))))))))⟩
theorem pf175_ok : fnOk Tryz.prog 175 pf175 = true := by kernel_rfl

/-- slices.reverseRangeCmpFunc[hinterland/api.Spot] -/
def pf176 : PFn := ⟨34, 4, [], .seq
(.reg [⟨some 10, none, .mv (.tmp 1)⟩,
⟨some 8, none, .mv (.tmp 10)⟩] [] [0, 2, 8])
(.seq
(.reg [⟨some 11, none, .mv (.tmp 2)⟩,
⟨some 12, none, .bin .sub (.tmp 11) (.val (.int .i64 1))⟩,
⟨some 9, none, .mv (.tmp 12)⟩] [] [0, 8, 9])
(.blk 0 (.loop (.seq
(.seq
(.reg [⟨some 13, none, .mv (.tmp 8)⟩,
⟨some 14, none, .mv (.tmp 9)⟩,
⟨some 15, none, .bin .lss (.tmp 13) (.tmp 14)⟩] [] [0, 8, 9, 15])
(.cond (.tmp 15)
(.skip)
(.ext 0)))
(.blk 1 (.seq
(.reg [⟨some 16, none, .mv (.tmp 0)⟩,
⟨some 17, none, .mv (.tmp 8)⟩,
⟨some 18, none, .mv (.tmp 0)⟩,
⟨some 19, none, .mv (.tmp 9)⟩,
⟨some 20, none, .mv (.tmp 0)⟩,
⟨some 21, none, .mv (.tmp 9)⟩,
⟨some 22, none, .iaS 3 (.tmp 20) (.tmp 21)⟩,
⟨some 23, none, .ld (some 3) (.tmp 22)⟩,
⟨some 24, none, .mv (.tmp 0)⟩,
⟨some 25, none, .mv (.tmp 8)⟩,
⟨some 26, none, .iaS 3 (.tmp 24) (.tmp 25)⟩,
⟨some 27, none, .ld (some 3) (.tmp 26)⟩,
⟨some 28, none, .iaS 3 (.tmp 16) (.tmp 17)⟩,
⟨none, none, .st 3 (.tmp 28) (.tmp 23)⟩,
⟨some 29, none, .iaS 3 (.tmp 18) (.tmp 19)⟩,
⟨none, none, .st 3 (.tmp 29) (.tmp 27)⟩] [] [0, 8, 9])
(.seq
(.reg [⟨some 30, none, .mv (.tmp 8)⟩,
⟨some 31, none, .bin .add (.tmp 30) (.val (.int .i64 1))⟩,
⟨some 8, none, .mv (.tmp 31)⟩] [] [0, 8, 9])
(.reg [⟨some 32, none, .mv (.tmp 9)⟩,
⟨some 33, none, .bin .sub (.tmp 32) (.val (.int .i64 1))⟩,
⟨some 9, none, .mv (.tmp 33)⟩] [] [0, 8, 9]))))))))⟩
theorem pf176_ok : fnOk Tryz.prog 176 pf176 = true := by kernel_rfl

/-- slices.partialInsertionSortCmpFunc[hinterland/api.Spot] -/
def pf177 : PFn := ⟨141, 4, [.tmp 8], .seq
(.reg [⟨some 8, none, .mv (.val (.bool false))⟩] [] [0, 1, 2, 3])
(.seq
(.reg [⟨some 13, none, .mv (.tmp 1)⟩,
⟨some 14, none, .bin .add (.tmp 13) (.val (.int .i64 1))⟩,
⟨some 9, none, .mv (.tmp 14)⟩] [] [0, 1, 2, 3, 9])
(.seq
(.seq
(.reg [⟨some 10, none, .mv (.val (.int .i64 0))⟩] [] [0, 1, 2, 3, 9, 10])
(.blk 0 (.loop (.seq
(.seq
(.reg [⟨some 15, none, .mv (.tmp 10)⟩,
⟨some 16, none, .bin .lss (.tmp 15) (.val (.int .i64 5))⟩] [] [0, 1, 2, 3, 9, 10, 16])
(.cond (.tmp 16)
(.skip)
(.ext 0)))
(.seq
(.blk 1 (.seq
(.blk 2 (.loop (.seq
(.seq
(.reg [⟨some 19, none, .mv (.tmp 9)⟩,
⟨some 20, none, .mv (.tmp 2)⟩,
⟨some 21, none, .bin .lss (.tmp 19) (.tmp 20)⟩,
⟨some 22, none, .mv (.tmp 21)⟩,
⟨some 23, (some (22, true)), .mv (.tmp 3)⟩,
⟨some 24, (some (22, true)), .mv (.tmp 0)⟩,
⟨some 25, (some (22, true)), .mv (.tmp 9)⟩,
⟨some 26, (some (22, true)), .iaS 3 (.tmp 24) (.tmp 25)⟩,
⟨some 27, (some (22, true)), .ld (some 3) (.tmp 26)⟩,
⟨some 28, (some (22, true)), .mv (.tmp 0)⟩,
⟨some 29, (some (22, true)), .mv (.tmp 9)⟩,
⟨some 30, (some (22, true)), .bin .sub (.tmp 29) (.val (.int .i64 1))⟩,
⟨some 31, (some (22, true)), .iaS 3 (.tmp 28) (.tmp 30)⟩,
⟨some 32, (some (22, true)), .ld (some 3) (.tmp 31)⟩,
⟨some 33, (some (22, true)), .callv (.tmp 23) .pure [(.tmp 27), (.tmp 32)]⟩,
⟨some 34, (some (22, true)), .bin .lss (.tmp 33) (.val (.int .i64 0))⟩,
⟨some 35, (some (22, true)), .un .not (.tmp 34)⟩,
⟨some 36, none, .pick (.tmp 22) (.tmp 35) (.val (.bool false))⟩] [] [0, 1, 2, 3, 9, 10, 36])
(.cond (.tmp 36)
(.skip)
(.ext 2)))
(.blk 3 (.reg [⟨some 37, none, .mv (.tmp 9)⟩,
⟨some 38, none, .bin .add (.tmp 37) (.val (.int .i64 1))⟩,
⟨some 9, none, .mv (.tmp 38)⟩] [] [0, 1, 2, 3, 9, 10])))))
(.seq
(.seq
(.reg [⟨some 39, none, .mv (.tmp 9)⟩,
⟨some 40, none, .mv (.tmp 2)⟩,
⟨some 41, none, .bin .eql (.tmp 39) (.tmp 40)⟩] [] [0, 1, 2, 3, 9, 10, 41])
(.cond (.tmp 41)
(.seq
(.reg [⟨some 8, none, .mv (.val (.bool true))⟩] [] [8])
(.ret))
(.skip)))
(.seq
(.seq
(.reg [⟨some 42, none, .mv (.tmp 2)⟩,
⟨some 43, none, .mv (.tmp 1)⟩,
⟨some 44, none, .bin .sub (.tmp 42) (.tmp 43)⟩,
⟨some 45, none, .bin .lss (.tmp 44) (.val (.int .i64 50))⟩] [] [0, 1, 2, 3, 9, 10, 45])
(.cond (.tmp 45)
(.seq
(.reg [⟨some 8, none, .mv (.val (.bool false))⟩] [] [8])
(.ret))
(.skip)))
(.seq
(.reg [⟨some 46, none, .mv (.tmp 0)⟩,
⟨some 47, none, .mv (.tmp 9)⟩,
⟨some 48, none, .mv (.tmp 0)⟩,
⟨some 49, none, .mv (.tmp 9)⟩,
⟨some 50, none, .bin .sub (.tmp 49) (.val (.int .i64 1))⟩,
⟨some 51, none, .mv (.tmp 0)⟩,
⟨some 52, none, .mv (.tmp 9)⟩,
⟨some 53, none, .bin .sub (.tmp 52) (.val (.int .i64 1))⟩,
⟨some 54, none, .iaS 3 (.tmp 51) (.tmp 53)⟩,
⟨some 55, none, .ld (some 3) (.tmp 54)⟩,
⟨some 56, none, .mv (.tmp 0)⟩,
⟨some 57, none, .mv (.tmp 9)⟩,
⟨some 58, none, .iaS 3 (.tmp 56) (.tmp 57)⟩,
⟨some 59, none, .ld (some 3) (.tmp 58)⟩,
⟨some 60, none, .iaS 3 (.tmp 46) (.tmp 47)⟩,
⟨none, none, .st 3 (.tmp 60) (.tmp 55)⟩,
⟨some 61, none, .iaS 3 (.tmp 48) (.tmp 50)⟩,
⟨none, none, .st 3 (.tmp 61) (.tmp 59)⟩] [] [0, 1, 2, 3, 9, 10])
(.seq
(.seq
(.reg [⟨some 62, none, .mv (.tmp 9)⟩,
⟨some 63, none, .mv (.tmp 1)⟩,
⟨some 64, none, .bin .sub (.tmp 62) (.tmp 63)⟩,
⟨some 65, none, .bin .geq (.tmp 64) (.val (.int .i64 2))⟩] [] [0, 1, 2, 3, 9, 10, 65])
(.cond (.tmp 65)
(.seq
(.reg [⟨some 66, none, .mv (.tmp 9)⟩,
⟨some 67, none, .bin .sub (.tmp 66) (.val (.int .i64 1))⟩,
⟨some 11, none, .mv (.tmp 67)⟩] [] [0, 1, 2, 3, 9, 10, 11])
(.blk 4 (.loop (.seq
(.seq
(.reg [⟨some 68, none, .mv (.tmp 11)⟩,
⟨some 69, none, .bin .geq (.tmp 68) (.val (.int .i64 1))⟩] [] [0, 1, 2, 3, 9, 10, 11, 69])
(.cond (.tmp 69)
(.skip)
(.ext 4)))
(.seq
(.blk 5 (.seq
(.seq
(.reg [⟨some 72, none, .mv (.tmp 3)⟩,
⟨some 73, none, .mv (.tmp 0)⟩,
⟨some 74, none, .mv (.tmp 11)⟩,
⟨some 75, none, .iaS 3 (.tmp 73) (.tmp 74)⟩,
⟨some 76, none, .ld (some 3) (.tmp 75)⟩,
⟨some 77, none, .mv (.tmp 0)⟩,
⟨some 78, none, .mv (.tmp 11)⟩,
⟨some 79, none, .bin .sub (.tmp 78) (.val (.int .i64 1))⟩,
⟨some 80, none, .iaS 3 (.tmp 77) (.tmp 79)⟩,
⟨some 81, none, .ld (some 3) (.tmp 80)⟩,
⟨some 82, none, .callv (.tmp 72) .pure [(.tmp 76), (.tmp 81)]⟩,
⟨some 83, none, .bin .lss (.tmp 82) (.val (.int .i64 0))⟩,
⟨some 84, none, .un .not (.tmp 83)⟩] [] [0, 1, 2, 3, 9, 10, 11, 84])
(.cond (.tmp 84)
(.ext 4)
(.skip)))
(.reg [⟨some 85, none, .mv (.tmp 0)⟩,
⟨some 86, none, .mv (.tmp 11)⟩,
⟨some 87, none, .mv (.tmp 0)⟩,
⟨some 88, none, .mv (.tmp 11)⟩,
⟨some 89, none, .bin .sub (.tmp 88) (.val (.int .i64 1))⟩,
⟨some 90, none, .mv (.tmp 0)⟩,
⟨some 91, none, .mv (.tmp 11)⟩,
⟨some 92, none, .bin .sub (.tmp 91) (.val (.int .i64 1))⟩,
⟨some 93, none, .iaS 3 (.tmp 90) (.tmp 92)⟩,
⟨some 94, none, .ld (some 3) (.tmp 93)⟩,
⟨some 95, none, .mv (.tmp 0)⟩,
⟨some 96, none, .mv (.tmp 11)⟩,
⟨some 97, none, .iaS 3 (.tmp 95) (.tmp 96)⟩,
⟨some 98, none, .ld (some 3) (.tmp 97)⟩,
⟨some 99, none, .iaS 3 (.tmp 85) (.tmp 86)⟩,
⟨none, none, .st 3 (.tmp 99) (.tmp 94)⟩,
⟨some 100, none, .iaS 3 (.tmp 87) (.tmp 89)⟩,
⟨none, none, .st 3 (.tmp 100) (.tmp 98)⟩] [] [0, 1, 2, 3, 9, 10, 11])))
(.reg [⟨some 70, none, .mv (.tmp 11)⟩,
⟨some 71, none, .bin .sub (.tmp 70) (.val (.int .i64 1))⟩,
⟨some 11, none, .mv (.tmp 71)⟩] [] [0, 1, 2, 3, 9, 10, 11]))))))
(.skip)))
(.seq
(.reg [⟨some 101, none, .mv (.tmp 2)⟩,
⟨some 102, none, .mv (.tmp 9)⟩,
⟨some 103, none, .bin .sub (.tmp 101) (.tmp 102)⟩,
⟨some 104, none, .bin .geq (.tmp 103) (.val (.int .i64 2))⟩] [] [0, 1, 2, 3, 9, 10, 104])
(.cond (.tmp 104)
(.seq
(.reg [⟨some 105, none, .mv (.tmp 9)⟩,
⟨some 106, none, .bin .add (.tmp 105) (.val (.int .i64 1))⟩,
⟨some 12, none, .mv (.tmp 106)⟩] [] [0, 1, 2, 3, 9, 10, 12])
(.blk 6 (.loop (.seq
(.seq
(.reg [⟨some 107, none, .mv (.tmp 12)⟩,
⟨some 108, none, .mv (.tmp 2)⟩,
⟨some 109, none, .bin .lss (.tmp 107) (.tmp 108)⟩] [] [0, 1, 2, 3, 9, 10, 12, 109])
(.cond (.tmp 109)
(.skip)
(.ext 6)))
(.seq
(.blk 7 (.seq
(.seq
(.reg [⟨some 112, none, .mv (.tmp 3)⟩,
⟨some 113, none, .mv (.tmp 0)⟩,
⟨some 114, none, .mv (.tmp 12)⟩,
⟨some 115, none, .iaS 3 (.tmp 113) (.tmp 114)⟩,
⟨some 116, none, .ld (some 3) (.tmp 115)⟩,
⟨some 117, none, .mv (.tmp 0)⟩,
⟨some 118, none, .mv (.tmp 12)⟩,
⟨some 119, none, .bin .sub (.tmp 118) (.val (.int .i64 1))⟩,
⟨some 120, none, .iaS 3 (.tmp 117) (.tmp 119)⟩,
⟨some 121, none, .ld (some 3) (.tmp 120)⟩,
⟨some 122, none, .callv (.tmp 112) .pure [(.tmp 116), (.tmp 121)]⟩,
⟨some 123, none, .bin .lss (.tmp 122) (.val (.int .i64 0))⟩,
⟨some 124, none, .un .not (.tmp 123)⟩] [] [0, 1, 2, 3, 9, 10, 12, 124])
(.cond (.tmp 124)
(.ext 6)
(.skip)))
(.reg [⟨some 125, none, .mv (.tmp 0)⟩,
⟨some 126, none, .mv (.tmp 12)⟩,
⟨some 127, none, .mv (.tmp 0)⟩,
⟨some 128, none, .mv (.tmp 12)⟩,
⟨some 129, none, .bin .sub (.tmp 128) (.val (.int .i64 1))⟩,
⟨some 130, none, .mv (.tmp 0)⟩,
⟨some 131, none, .mv (.tmp 12)⟩,
⟨some 132, none, .bin .sub (.tmp 131) (.val (.int .i64 1))⟩,
⟨some 133, none, .iaS 3 (.tmp 130) (.tmp 132)⟩,
⟨some 134, none, .ld (some 3) (.tmp 133)⟩,
⟨some 135, none, .mv (.tmp 0)⟩,
⟨some 136, none, .mv (.tmp 12)⟩,
⟨some 137, none, .iaS 3 (.tmp 135) (.tmp 136)⟩,
⟨some 138, none, .ld (some 3) (.tmp 137)⟩,
⟨some 139, none, .iaS 3 (.tmp 125) (.tmp 126)⟩,
⟨none, none, .st 3 (.tmp 139) (.tmp 134)⟩,
⟨some 140, none, .iaS 3 (.tmp 127) (.tmp 129)⟩,
⟨none, none, .st 3 (.tmp 140) (.tmp 138)⟩] [] [0, 1, 2, 3, 9, 10, 12])))
(.reg [⟨some 110, none, .mv (.tmp 12)⟩,
⟨some 111, none, .bin .add (.tmp 110) (.val (.int .i64 1))⟩,
⟨some 12, none, .mv (.tmp 111)⟩] [] [0, 1, 2, 3, 9, 10, 12]))))))
(.skip)))))))))
(.reg [⟨some 17, none, .mv (.tmp 10)⟩,
⟨some 18, none, .bin .add (.tmp 17) (.val (.int .i64 1))⟩,
⟨some 10, none, .mv (.tmp 18)⟩] [] [0, 1, 2, 3, 9, 10]))))))
(.seq
(.reg [⟨some 8, none, .mv (.val (.bool false))⟩] [] [8])
(.ret))))⟩
theorem pf177_ok : fnOk Tryz.prog 177 pf177 = true := by kernel_rfl

/-- slices.partitionEqualCmpFunc[hinterland/api.Spot] -/
def pf178 : PFn := ⟨90, 5, [.tmp 10], .seq
(.reg [⟨some 10, none, .mv (.val (.int .i64 0))⟩] [] [0, 1, 2, 3, 4])
(.seq
(.reg [⟨some 13, none, .mv (.tmp 0)⟩,
⟨some 14, none, .mv (.tmp 1)⟩,
⟨some 15, none, .mv (.tmp 0)⟩,
⟨some 16, none, .mv (.tmp 3)⟩,
⟨some 17, none, .mv (.tmp 0)⟩,
⟨some 18, none, .mv (.tmp 3)⟩,
⟨some 19, none, .iaS 3 (.tmp 17) (.tmp 18)⟩,
⟨some 20, none, .ld (some 3) (.tmp 19)⟩,
⟨some 21, none, .mv (.tmp 0)⟩,
⟨some 22, none, .mv (.tmp 1)⟩,
⟨some 23, none, .iaS 3 (.tmp 21) (.tmp 22)⟩,
⟨some 24, none, .ld (some 3) (.tmp 23)⟩,
⟨some 25, none, .iaS 3 (.tmp 13) (.tmp 14)⟩,
⟨none, none, .st 3 (.tmp 25) (.tmp 20)⟩,
⟨some 26, none, .iaS 3 (.tmp 15) (.tmp 16)⟩,
⟨none, none, .st 3 (.tmp 26) (.tmp 24)⟩] [] [0, 1, 2, 4])
(.seq
(.reg [⟨some 27, none, .mv (.tmp 1)⟩,
⟨some 28, none, .bin .add (.tmp 27) (.val (.int .i64 1))⟩,
⟨some 29, none, .mv (.tmp 2)⟩,
⟨some 30, none, .bin .sub (.tmp 29) (.val (.int .i64 1))⟩,
⟨some 11, none, .mv (.tmp 28)⟩,
⟨some 12, none, .mv (.tmp 30)⟩] [] [0, 1, 4, 11, 12])
(.seq
(.blk 0 (.loop (.blk 1 (.seq
(.blk 2 (.loop (.seq
(.seq
(.reg [⟨some 31, none, .mv (.tmp 11)⟩,
⟨some 32, none, .mv (.tmp 12)⟩,
⟨some 33, none, .bin .leq (.tmp 31) (.tmp 32)⟩,
⟨some 34, none, .mv (.tmp 33)⟩,
⟨some 35, (some (34, true)), .mv (.tmp 4)⟩,
⟨some 36, (some (34, true)), .mv (.tmp 0)⟩,
⟨some 37, (some (34, true)), .mv (.tmp 1)⟩,
⟨some 38, (some (34, true)), .iaS 3 (.tmp 36) (.tmp 37)⟩,
⟨some 39, (some (34, true)), .ld (some 3) (.tmp 38)⟩,
⟨some 40, (some (34, true)), .mv (.tmp 0)⟩,
⟨some 41, (some (34, true)), .mv (.tmp 11)⟩,
⟨some 42, (some (34, true)), .iaS 3 (.tmp 40) (.tmp 41)⟩,
⟨some 43, (some (34, true)), .ld (some 3) (.tmp 42)⟩,
⟨some 44, (some (34, true)), .callv (.tmp 35) .pure [(.tmp 39), (.tmp 43)]⟩,
⟨some 45, (some (34, true)), .bin .lss (.tmp 44) (.val (.int .i64 0))⟩,
⟨some 46, (some (34, true)), .un .not (.tmp 45)⟩,
⟨some 47, none, .pick (.tmp 34) (.tmp 46) (.val (.bool false))⟩] [] [0, 1, 4, 11, 12, 47])
(.cond (.tmp 47)
(.skip)
(.ext 2)))
(.blk 3 (.reg [⟨some 48, none, .mv (.tmp 11)⟩,
⟨some 49, none, .bin .add (.tmp 48) (.val (.int .i64 1))⟩,
⟨some 11, none, .mv (.tmp 49)⟩] [] [0, 1, 4, 11, 12])))))
(.seq
(.blk 4 (.loop (.seq
(.seq
(.reg [⟨some 50, none, .mv (.tmp 11)⟩,
⟨some 51, none, .mv (.tmp 12)⟩,
⟨some 52, none, .bin .leq (.tmp 50) (.tmp 51)⟩,
⟨some 53, none, .mv (.tmp 52)⟩,
⟨some 54, (some (53, true)), .mv (.tmp 4)⟩,
⟨some 55, (some (53, true)), .mv (.tmp 0)⟩,
⟨some 56, (some (53, true)), .mv (.tmp 1)⟩,
⟨some 57, (some (53, true)), .iaS 3 (.tmp 55) (.tmp 56)⟩,
⟨some 58, (some (53, true)), .ld (some 3) (.tmp 57)⟩,
⟨some 59, (some (53, true)), .mv (.tmp 0)⟩,
⟨some 60, (some (53, true)), .mv (.tmp 12)⟩,
⟨some 61, (some (53, true)), .iaS 3 (.tmp 59) (.tmp 60)⟩,
⟨some 62, (some (53, true)), .ld (some 3) (.tmp 61)⟩,
⟨some 63, (some (53, true)), .callv (.tmp 54) .pure [(.tmp 58), (.tmp 62)]⟩,
⟨some 64, (some (53, true)), .bin .lss (.tmp 63) (.val (.int .i64 0))⟩,
⟨some 65, none, .pick (.tmp 53) (.tmp 64) (.val (.bool false))⟩] [] [0, 1, 4, 11, 12, 65])
(.cond (.tmp 65)
(.skip)
(.ext 4)))
(.blk 5 (.reg [⟨some 66, none, .mv (.tmp 12)⟩,
⟨some 67, none, .bin .sub (.tmp 66) (.val (.int .i64 1))⟩,
⟨some 12, none, .mv (.tmp 67)⟩] [] [0, 1, 4, 11, 12])))))
(.seq
(.seq
(.reg [⟨some 68, none, .mv (.tmp 11)⟩,
⟨some 69, none, .mv (.tmp 12)⟩,
⟨some 70, none, .bin .gtr (.tmp 68) (.tmp 69)⟩] [] [0, 1, 4, 11, 12, 70])
(.cond (.tmp 70)
(.ext 0)
(.skip)))
(.seq
(.reg [⟨some 71, none, .mv (.tmp 0)⟩,
⟨some 72, none, .mv (.tmp 11)⟩,
⟨some 73, none, .mv (.tmp 0)⟩,
⟨some 74, none, .mv (.tmp 12)⟩,
⟨some 75, none, .mv (.tmp 0)⟩,
⟨some 76, none, .mv (.tmp 12)⟩,
⟨some 77, none, .iaS 3 (.tmp 75) (.tmp 76)⟩,
⟨some 78, none, .ld (some 3) (.tmp 77)⟩,
⟨some 79, none, .mv (.tmp 0)⟩,
⟨some 80, none, .mv (.tmp 11)⟩,
⟨some 81, none, .iaS 3 (.tmp 79) (.tmp 80)⟩,
⟨some 82, none, .ld (some 3) (.tmp 81)⟩,
⟨some 83, none, .iaS 3 (.tmp 71) (.tmp 72)⟩,
⟨none, none, .st 3 (.tmp 83) (.tmp 78)⟩,
⟨some 84, none, .iaS 3 (.tmp 73) (.tmp 74)⟩,
⟨none, none, .st 3 (.tmp 84) (.tmp 82)⟩] [] [0, 1, 4, 11, 12])
(.seq
(.reg [⟨some 85, none, .mv (.tmp 11)⟩,
⟨some 86, none, .bin .add (.tmp 85) (.val (.int .i64 1))⟩,
⟨some 11, none, .mv (.tmp 86)⟩] [] [0, 1, 4, 11, 12])
(.reg [⟨some 87, none, .mv (.tmp 12)⟩,
⟨some 88, none, .bin .sub (.tmp 87) (.val (.int .i64 1))⟩,
⟨some 12, none, .mv (.tmp 88)⟩] [] [0, 1, 4, 11, 12])))))))))
(.seq
(.reg [⟨some 89, none, .mv (.tmp 11)⟩,
⟨some 10, none, .mv (.tmp 89)⟩] [] [10])
(.ret)))))⟩
theorem pf178_ok : fnOk Tryz.prog 178 pf178 = true := by kernel_rfl

/-- slices.partitionCmpFunc[hinterland/api.Spot] -/
def pf179 : PFn := ⟨178, 5, [.tmp 10, .tmp 11], .seq
(.reg [⟨some 10, none, .mv (.val (.int .i64 0))⟩,
⟨some 11, none, .mv (.val (.bool false))⟩] [] [0, 1, 2, 3, 4])
(.seq
(.reg [⟨some 14, none, .mv (.tmp 0)⟩,
⟨some 15, none, .mv (.tmp 1)⟩,
⟨some 16, none, .mv (.tmp 0)⟩,
⟨some 17, none, .mv (.tmp 3)⟩,
⟨some 18, none, .mv (.tmp 0)⟩,
⟨some 19, none, .mv (.tmp 3)⟩,
⟨some 20, none, .iaS 3 (.tmp 18) (.tmp 19)⟩,
⟨some 21, none, .ld (some 3) (.tmp 20)⟩,
⟨some 22, none, .mv (.tmp 0)⟩,
⟨some 23, none, .mv (.tmp 1)⟩,
⟨some 24, none, .iaS 3 (.tmp 22) (.tmp 23)⟩,
⟨some 25, none, .ld (some 3) (.tmp 24)⟩,
⟨some 26, none, .iaS 3 (.tmp 14) (.tmp 15)⟩,
⟨none, none, .st 3 (.tmp 26) (.tmp 21)⟩,
⟨some 27, none, .iaS 3 (.tmp 16) (.tmp 17)⟩,
⟨none, none, .st 3 (.tmp 27) (.tmp 25)⟩] [] [0, 1, 2, 4])
(.seq
(.reg [⟨some 28, none, .mv (.tmp 1)⟩,
⟨some 29, none, .bin .add (.tmp 28) (.val (.int .i64 1))⟩,
⟨some 30, none, .mv (.tmp 2)⟩,
⟨some 31, none, .bin .sub (.tmp 30) (.val (.int .i64 1))⟩,
⟨some 12, none, .mv (.tmp 29)⟩,
⟨some 13, none, .mv (.tmp 31)⟩] [] [0, 1, 4, 12, 13])
(.seq
(.blk 0 (.loop (.seq
(.seq
(.reg [⟨some 32, none, .mv (.tmp 12)⟩,
⟨some 33, none, .mv (.tmp 13)⟩,
⟨some 34, none, .bin .leq (.tmp 32) (.tmp 33)⟩,
⟨some 35, none, .mv (.tmp 34)⟩,
⟨some 36, (some (35, true)), .mv (.tmp 4)⟩,
⟨some 37, (some (35, true)), .mv (.tmp 0)⟩,
⟨some 38, (some (35, true)), .mv (.tmp 12)⟩,
⟨some 39, (some (35, true)), .iaS 3 (.tmp 37) (.tmp 38)⟩,
⟨some 40, (some (35, true)), .ld (some 3) (.tmp 39)⟩,
⟨some 41, (some (35, true)), .mv (.tmp 0)⟩,
⟨some 42, (some (35, true)), .mv (.tmp 1)⟩,
⟨some 43, (some (35, true)), .iaS 3 (.tmp 41) (.tmp 42)⟩,
⟨some 44, (some (35, true)), .ld (some 3) (.tmp 43)⟩,
⟨some 45, (some (35, true)), .callv (.tmp 36) .pure [(.tmp 40), (.tmp 44)]⟩,
⟨some 46, (some (35, true)), .bin .lss (.tmp 45) (.val (.int .i64 0))⟩,
⟨some 47, none, .pick (.tmp 35) (.tmp 46) (.val (.bool false))⟩] [] [0, 1, 4, 12, 13, 47])
(.cond (.tmp 47)
(.skip)
(.ext 0)))
(.blk 1 (.reg [⟨some 48, none, .mv (.tmp 12)⟩,
⟨some 49, none, .bin .add (.tmp 48) (.val (.int .i64 1))⟩,
⟨some 12, none, .mv (.tmp 49)⟩] [] [0, 1, 4, 12, 13])))))
(.seq
(.blk 2 (.loop (.seq
(.seq
(.reg [⟨some 50, none, .mv (.tmp 12)⟩,
⟨some 51, none, .mv (.tmp 13)⟩,
⟨some 52, none, .bin .leq (.tmp 50) (.tmp 51)⟩,
⟨some 53, none, .mv (.tmp 52)⟩,
⟨some 54, (some (53, true)), .mv (.tmp 4)⟩,
⟨some 55, (some (53, true)), .mv (.tmp 0)⟩,
⟨some 56, (some (53, true)), .mv (.tmp 13)⟩,
⟨some 57, (some (53, true)), .iaS 3 (.tmp 55) (.tmp 56)⟩,
⟨some 58, (some (53, true)), .ld (some 3) (.tmp 57)⟩,
⟨some 59, (some (53, true)), .mv (.tmp 0)⟩,
⟨some 60, (some (53, true)), .mv (.tmp 1)⟩,
⟨some 61, (some (53, true)), .iaS 3 (.tmp 59) (.tmp 60)⟩,
⟨some 62, (some (53, true)), .ld (some 3) (.tmp 61)⟩,
⟨some 63, (some (53, true)), .callv (.tmp 54) .pure [(.tmp 58), (.tmp 62)]⟩,
⟨some 64, (some (53, true)), .bin .lss (.tmp 63) (.val (.int .i64 0))⟩,
⟨some 65, (some (53, true)), .un .not (.tmp 64)⟩,
⟨some 66, none, .pick (.tmp 53) (.tmp 65) (.val (.bool false))⟩] [] [0, 1, 4, 12, 13, 66])
(.cond (.tmp 66)
(.skip)
(.ext 2)))
(.blk 3 (.reg [⟨some 67, none, .mv (.tmp 13)⟩,
⟨some 68, none, .bin .sub (.tmp 67) (.val (.int .i64 1))⟩,
⟨some 13, none, .mv (.tmp 68)⟩] [] [0, 1, 4, 12, 13])))))
(.seq
(.seq
(.reg [⟨some 69, none, .mv (.tmp 12)⟩,
⟨some 70, none, .mv (.tmp 13)⟩,
⟨some 71, none, .bin .gtr (.tmp 69) (.tmp 70)⟩] [] [0, 1, 4, 12, 13, 71])
(.cond (.tmp 71)
(.seq
(.reg [⟨some 72, none, .mv (.tmp 0)⟩,
⟨some 73, none, .mv (.tmp 13)⟩,
⟨some 74, none, .mv (.tmp 0)⟩,
⟨some 75, none, .mv (.tmp 1)⟩,
⟨some 76, none, .mv (.tmp 0)⟩,
⟨some 77, none, .mv (.tmp 1)⟩,
⟨some 78, none, .iaS 3 (.tmp 76) (.tmp 77)⟩,
⟨some 79, none, .ld (some 3) (.tmp 78)⟩,
⟨some 80, none, .mv (.tmp 0)⟩,
⟨some 81, none, .mv (.tmp 13)⟩,
⟨some 82, none, .iaS 3 (.tmp 80) (.tmp 81)⟩,
⟨some 83, none, .ld (some 3) (.tmp 82)⟩,
⟨some 84, none, .iaS 3 (.tmp 72) (.tmp 73)⟩,
⟨none, none, .st 3 (.tmp 84) (.tmp 79)⟩,
⟨some 85, none, .iaS 3 (.tmp 74) (.tmp 75)⟩,
⟨none, none, .st 3 (.tmp 85) (.tmp 83)⟩] [] [13])
(.seq
(.reg [⟨some 86, none, .mv (.tmp 13)⟩,
⟨some 10, none, .mv (.tmp 86)⟩,
⟨some 11, none, .mv (.val (.bool true))⟩] [] [10, 11])
(.ret)))
(.skip)))
(.seq
(.reg [⟨some 87, none, .mv (.tmp 0)⟩,
⟨some 88, none, .mv (.tmp 12)⟩,
⟨some 89, none, .mv (.tmp 0)⟩,
⟨some 90, none, .mv (.tmp 13)⟩,
⟨some 91, none, .mv (.tmp 0)⟩,
⟨some 92, none, .mv (.tmp 13)⟩,
⟨some 93, none, .iaS 3 (.tmp 91) (.tmp 92)⟩,
⟨some 94, none, .ld (some 3) (.tmp 93)⟩,
⟨some 95, none, .mv (.tmp 0)⟩,
⟨some 96, none, .mv (.tmp 12)⟩,
⟨some 97, none, .iaS 3 (.tmp 95) (.tmp 96)⟩,
⟨some 98, none, .ld (some 3) (.tmp 97)⟩,
⟨some 99, none, .iaS 3 (.tmp 87) (.tmp 88)⟩,
⟨none, none, .st 3 (.tmp 99) (.tmp 94)⟩,
⟨some 100, none, .iaS 3 (.tmp 89) (.tmp 90)⟩,
⟨none, none, .st 3 (.tmp 100) (.tmp 98)⟩] [] [0, 1, 4, 12, 13])
(.seq
(.reg [⟨some 101, none, .mv (.tmp 12)⟩,
⟨some 102, none, .bin .add (.tmp 101) (.val (.int .i64 1))⟩,
⟨some 12, none, .mv (.tmp 102)⟩] [] [0, 1, 4, 12, 13])
(.seq
(.reg [⟨some 103, none, .mv (.tmp 13)⟩,
⟨some 104, none, .bin .sub (.tmp 103) (.val (.int .i64 1))⟩,
⟨some 13, none, .mv (.tmp 104)⟩] [] [0, 1, 4, 12, 13])
(.seq
(.blk 4 (.loop (.blk 5 (.seq
(.blk 6 (.loop (.seq
(.seq
(.reg [⟨some 105, none, .mv (.tmp 12)⟩,
⟨some 106, none, .mv (.tmp 13)⟩,
⟨some 107, none, .bin .leq (.tmp 105) (.tmp 106)⟩,
⟨some 108, none, .mv (.tmp 107)⟩,
⟨some 109, (some (108, true)), .mv (.tmp 4)⟩,
⟨some 110, (some (108, true)), .mv (.tmp 0)⟩,
⟨some 111, (some (108, true)), .mv (.tmp 12)⟩,
⟨some 112, (some (108, true)), .iaS 3 (.tmp 110) (.tmp 111)⟩,
⟨some 113, (some (108, true)), .ld (some 3) (.tmp 112)⟩,
⟨some 114, (some (108, true)), .mv (.tmp 0)⟩,
⟨some 115, (some (108, true)), .mv (.tmp 1)⟩,
⟨some 116, (some (108, true)), .iaS 3 (.tmp 114) (.tmp 115)⟩,
⟨some 117, (some (108, true)), .ld (some 3) (.tmp 116)⟩,
⟨some 118, (some (108, true)), .callv (.tmp 109) .pure [(.tmp 113), (.tmp 117)]⟩,
⟨some 119, (some (108, true)), .bin .lss (.tmp 118) (.val (.int .i64 0))⟩,
⟨some 120, none, .pick (.tmp 108) (.tmp 119) (.val (.bool false))⟩] [] [0, 1, 4, 12, 13, 120])
(.cond (.tmp 120)
(.skip)
(.ext 6)))
(.blk 7 (.reg [⟨some 121, none, .mv (.tmp 12)⟩,
⟨some 122, none, .bin .add (.tmp 121) (.val (.int .i64 1))⟩,
⟨some 12, none, .mv (.tmp 122)⟩] [] [0, 1, 4, 12, 13])))))
(.seq
(.blk 8 (.loop (.seq
(.seq
(.reg [⟨some 123, none, .mv (.tmp 12)⟩,
⟨some 124, none, .mv (.tmp 13)⟩,
⟨some 125, none, .bin .leq (.tmp 123) (.tmp 124)⟩,
⟨some 126, none, .mv (.tmp 125)⟩,
⟨some 127, (some (126, true)), .mv (.tmp 4)⟩,
⟨some 128, (some (126, true)), .mv (.tmp 0)⟩,
⟨some 129, (some (126, true)), .mv (.tmp 13)⟩,
⟨some 130, (some (126, true)), .iaS 3 (.tmp 128) (.tmp 129)⟩,
⟨some 131, (some (126, true)), .ld (some 3) (.tmp 130)⟩,
⟨some 132, (some (126, true)), .mv (.tmp 0)⟩,
⟨some 133, (some (126, true)), .mv (.tmp 1)⟩,
⟨some 134, (some (126, true)), .iaS 3 (.tmp 132) (.tmp 133)⟩,
⟨some 135, (some (126, true)), .ld (some 3) (.tmp 134)⟩,
⟨some 136, (some (126, true)), .callv (.tmp 127) .pure [(.tmp 131), (.tmp 135)]⟩,
⟨some 137, (some (126, true)), .bin .lss (.tmp 136) (.val (.int .i64 0))⟩,
⟨some 138, (some (126, true)), .un .not (.tmp 137)⟩,
⟨some 139, none, .pick (.tmp 126) (.tmp 138) (.val (.bool false))⟩] [] [0, 1, 4, 12, 13, 139])
(.cond (.tmp 139)
(.skip)
(.ext 8)))
(.blk 9 (.reg [⟨some 140, none, .mv (.tmp 13)⟩,
⟨some 141, none, .bin .sub (.tmp 140) (.val (.int .i64 1))⟩,
⟨some 13, none, .mv (.tmp 141)⟩] [] [0, 1, 4, 12, 13])))))
(.seq
(.seq
(.reg [⟨some 142, none, .mv (.tmp 12)⟩,
⟨some 143, none, .mv (.tmp 13)⟩,
⟨some 144, none, .bin .gtr (.tmp 142) (.tmp 143)⟩] [] [0, 1, 4, 12, 13, 144])
(.cond (.tmp 144)
(.ext 4)
(.skip)))
(.seq
(.reg [⟨some 145, none, .mv (.tmp 0)⟩,
⟨some 146, none, .mv (.tmp 12)⟩,
⟨some 147, none, .mv (.tmp 0)⟩,
⟨some 148, none, .mv (.tmp 13)⟩,
⟨some 149, none, .mv (.tmp 0)⟩,
⟨some 150, none, .mv (.tmp 13)⟩,
⟨some 151, none, .iaS 3 (.tmp 149) (.tmp 150)⟩,
⟨some 152, none, .ld (some 3) (.tmp 151)⟩,
⟨some 153, none, .mv (.tmp 0)⟩,
⟨some 154, none, .mv (.tmp 12)⟩,
⟨some 155, none, .iaS 3 (.tmp 153) (.tmp 154)⟩,
⟨some 156, none, .ld (some 3) (.tmp 155)⟩,
⟨some 157, none, .iaS 3 (.tmp 145) (.tmp 146)⟩,
⟨none, none, .st 3 (.tmp 157) (.tmp 152)⟩,
⟨some 158, none, .iaS 3 (.tmp 147) (.tmp 148)⟩,
⟨none, none, .st 3 (.tmp 158) (.tmp 156)⟩] [] [0, 1, 4, 12, 13])
(.seq
(.reg [⟨some 159, none, .mv (.tmp 12)⟩,
⟨some 160, none, .bin .add (.tmp 159) (.val (.int .i64 1))⟩,
⟨some 12, none, .mv (.tmp 160)⟩] [] [0, 1, 4, 12, 13])
(.reg [⟨some 161, none, .mv (.tmp 13)⟩,
⟨some 162, none, .bin .sub (.tmp 161) (.val (.int .i64 1))⟩,
⟨some 13, none, .mv (.tmp 162)⟩] [] [0, 1, 4, 12, 13])))))))))
(.seq
(.reg [⟨some 163, none, .mv (.tmp 0)⟩,
⟨some 164, none, .mv (.tmp 13)⟩,
⟨some 165, none, .mv (.tmp 0)⟩,
⟨some 166, none, .mv (.tmp 1)⟩,
⟨some 167, none, .mv (.tmp 0)⟩,
⟨some 168, none, .mv (.tmp 1)⟩,
⟨some 169, none, .iaS 3 (.tmp 167) (.tmp 168)⟩,
⟨some 170, none, .ld (some 3) (.tmp 169)⟩,
⟨some 171, none, .mv (.tmp 0)⟩,
⟨some 172, none, .mv (.tmp 13)⟩,
⟨some 173, none, .iaS 3 (.tmp 171) (.tmp 172)⟩,
⟨some 174, none, .ld (some 3) (.tmp 173)⟩,
⟨some 175, none, .iaS 3 (.tmp 163) (.tmp 164)⟩,
⟨none, none, .st 3 (.tmp 175) (.tmp 170)⟩,
⟨some 176, none, .iaS 3 (.tmp 165) (.tmp 166)⟩,
⟨none, none, .st 3 (.tmp 176) (.tmp 174)⟩] [] [13])
(.seq
(.reg [⟨some 177, none, .mv (.tmp 13)⟩,
⟨some 10, none, .mv (.tmp 177)⟩,
⟨some 11, none, .mv (.val (.bool false))⟩] [] [10, 11])
(.ret))))))))))))⟩
theorem pf179_ok : fnOk Tryz.prog 179 pf179 = true := by kernel_rfl

/-- hinterland/block.joinTile -/
def pf182 : PFn := ⟨41, 3, [], .seq
(.reg [⟨some 3, none, .boxp 25 (.tmp 0)⟩] [] [1, 2, 3])
(.seq
(.reg [⟨some 8, none, .mv (.val (.int .i64 0))⟩] [] [1, 2, 3, 8])
(.blk 0 (.loop (.seq
(.reg [⟨some 9, none, .bin .lss (.tmp 8) (.val (.int .i64 6))⟩] [] [1, 2, 3, 8, 9])
(.seq
(.cond (.tmp 9)
(.skip)
(.ext 0))
(.seq
(.blk 1 (.seq
(.reg [⟨some 10, none, .mv (.tmp 8)⟩,
⟨some 6, none, .mv (.tmp 10)⟩] [] [1, 2, 3, 6, 8])
(.seq
(.reg [⟨some 11, none, .mv (.tmp 6)⟩,
⟨some 12, none, .mv (.val (.int .i64 0))⟩] [] [1, 2, 3, 6, 8, 11, 12])
(.blk 2 (.loop (.seq
(.reg [⟨some 13, none, .bin .lss (.tmp 12) (.tmp 11)⟩] [] [1, 2, 3, 6, 8, 11, 12, 13])
(.seq
(.cond (.tmp 13)
(.skip)
(.ext 2))
(.seq
(.blk 3 (.seq
(.reg [⟨some 14, none, .mv (.tmp 12)⟩,
⟨some 7, none, .mv (.tmp 14)⟩] [] [1, 2, 3, 6, 7, 8, 11, 12])
(.seq
(.reg [⟨some 15, none, .ld (some 4) (.tmp 3)⟩,
⟨some 16, none, .mv (.tmp 2)⟩,
⟨some 17, none, .mv (.tmp 6)⟩,
⟨some 18, none, .call 106 .pure [(.tmp 15), (.tmp 16), (.tmp 17)]⟩,
⟨some 19, none, .mv (.tmp 18)⟩,
⟨some 20, (some (19, true)), .ld (some 4) (.tmp 3)⟩,
⟨some 21, (some (19, true)), .mv (.tmp 2)⟩,
⟨some 22, (some (19, true)), .mv (.tmp 7)⟩,
⟨some 23, (some (19, true)), .call 106 .pure [(.tmp 20), (.tmp 21), (.tmp 22)]⟩,
⟨some 24, none, .pick (.tmp 19) (.tmp 23) (.val (.bool false))⟩,
⟨some 25, none, .mv (.tmp 24)⟩,
⟨some 26, (some (25, true)), .mv (.tmp 6)⟩,
⟨some 27, (some (25, true)), .mv (.tmp 7)⟩,
⟨some 28, (some (25, true)), .call 202 .pure [(.tmp 26), (.tmp 27)]⟩,
⟨some 29, (some (25, true)), .un .not (.tmp 28)⟩,
⟨some 30, none, .pick (.tmp 25) (.tmp 29) (.val (.bool false))⟩] [] [1, 2, 3, 6, 7, 8, 11, 12, 30])
(.cond (.tmp 30)
(.reg [⟨some 31, none, .mv (.tmp 1)⟩,
⟨some 32, none, .mv (.tmp 2)⟩,
⟨some 33, none, .mv (.tmp 6)⟩,
⟨some 34, none, .call 204 .pure [(.tmp 32), (.tmp 33)]⟩,
⟨some 35, none, .mv (.tmp 2)⟩,
⟨some 36, none, .mv (.tmp 7)⟩,
⟨some 37, none, .call 204 .pure [(.tmp 35), (.tmp 36)]⟩,
⟨some 38, none, .call 203 .opn [(.tmp 31), (.tmp 34), (.tmp 37)]⟩] [] [1, 2, 3, 6, 8, 11, 12])
(.skip)))))
(.reg [⟨some 39, none, .bin .add (.tmp 12) (.val (.int .i64 1))⟩,
⟨some 12, none, .mv (.tmp 39)⟩] [] [1, 2, 3, 6, 8, 11, 12])))))))))
(.reg [⟨some 40, none, .bin .add (.tmp 8) (.val (.int .i64 1))⟩,
⟨some 8, none, .mv (.tmp 40)⟩] [] [1, 2, 3, 8])))))))⟩
theorem pf182_ok : fnOk Tryz.prog 182 pf182 = true := by kernel_rfl

/-- hinterland/block.joinSide -/
def pf183 : PFn := ⟨72, 6, [], .seq
(.reg [⟨some 6, none, .boxp 25 (.tmp 0)⟩] [] [1, 2, 3, 4, 5, 6])
(.seq
(.reg [⟨some 15, none, .mv (.tmp 1)⟩,
⟨some 16, none, .mkf (.func 205) [(.tmp 15)] []⟩,
⟨some 12, none, .mv (.tmp 16)⟩] [] [2, 3, 4, 5, 6, 12])
(.seq
(.reg [⟨some 17, none, .mv (.val (.int .i64 0))⟩] [] [2, 3, 4, 5, 6, 12, 17])
(.blk 0 (.loop (.seq
(.reg [⟨some 18, none, .bin .lss (.tmp 17) (.val (.int .i64 6))⟩] [] [2, 3, 4, 5, 6, 12, 17, 18])
(.seq
(.cond (.tmp 18)
(.skip)
(.ext 0))
(.seq
(.blk 1 (.seq
(.reg [⟨some 19, none, .mv (.tmp 17)⟩,
⟨some 13, none, .mv (.tmp 19)⟩] [] [2, 3, 4, 5, 6, 12, 13, 17])
(.seq
(.seq
(.reg [⟨some 20, none, .ld (some 4) (.tmp 6)⟩,
⟨some 21, none, .mv (.tmp 3)⟩,
⟨some 22, none, .mv (.tmp 13)⟩,
⟨some 23, none, .call 106 .pure [(.tmp 20), (.tmp 21), (.tmp 22)]⟩,
⟨some 24, none, .un .not (.tmp 23)⟩,
⟨some 25, none, .mv (.tmp 24)⟩,
⟨some 26, (some (25, false)), .mv (.tmp 13)⟩,
⟨some 27, (some (25, false)), .mv (.tmp 4)⟩,
⟨some 28, (some (25, false)), .call 107 .pure [(.tmp 26), (.tmp 27)]⟩,
⟨some 29, (some (25, false)), .un .not (.tmp 28)⟩,
⟨some 30, none, .pick (.tmp 25) (.val (.bool true)) (.tmp 29)⟩,
⟨some 31, none, .mv (.tmp 30)⟩,
⟨some 32, (some (31, false)), .mv (.tmp 12)⟩,
⟨some 33, (some (31, false)), .mv (.tmp 3)⟩,
⟨some 34, (some (31, false)), .mv (.tmp 13)⟩,
⟨some 35, (some (31, false)), .mv (.tmp 4)⟩,
⟨some 36, (some (31, false)), .callv (.tmp 32) .pure [(.tmp 33), (.tmp 34), (.tmp 35)]⟩,
⟨some 37, none, .pick (.tmp 31) (.val (.bool true)) (.tmp 36)⟩] [] [2, 3, 4, 5, 6, 12, 13, 17, 37])
(.cond (.tmp 37)
(.ext 1)
(.skip)))
(.seq
(.reg [⟨some 38, none, .mv (.val (.int .i64 0))⟩] [] [2, 3, 4, 5, 6, 12, 13, 17, 38])
(.blk 2 (.loop (.seq
(.reg [⟨some 39, none, .bin .lss (.tmp 38) (.val (.int .i64 6))⟩] [] [2, 3, 4, 5, 6, 12, 13, 17, 38, 39])
(.seq
(.cond (.tmp 39)
(.skip)
(.ext 2))
(.seq
(.blk 3 (.seq
(.reg [⟨some 40, none, .mv (.tmp 38)⟩,
⟨some 14, none, .mv (.tmp 40)⟩] [] [2, 3, 4, 5, 6, 12, 13, 14, 17, 38])
(.seq
(.reg [⟨some 41, none, .ld (some 4) (.tmp 6)⟩,
⟨some 42, none, .mv (.tmp 5)⟩,
⟨some 43, none, .mv (.tmp 14)⟩,
⟨some 44, none, .call 106 .pure [(.tmp 41), (.tmp 42), (.tmp 43)]⟩,
⟨some 45, none, .mv (.tmp 44)⟩,
⟨some 46, (some (45, true)), .mv (.tmp 14)⟩,
⟨some 47, (some (45, true)), .mv (.tmp 4)⟩,
⟨some 48, (some (45, true)), .bin .add (.tmp 47) (.val (.int .i64 2))⟩,
⟨some 49, (some (45, true)), .bin .rem (.tmp 48) (.val (.int .i64 4))⟩,
⟨some 50, (some (45, true)), .call 107 .pure [(.tmp 46), (.tmp 49)]⟩,
⟨some 51, none, .pick (.tmp 45) (.tmp 50) (.val (.bool false))⟩,
⟨some 52, none, .mv (.tmp 51)⟩,
⟨some 53, (some (52, true)), .mv (.tmp 12)⟩,
⟨some 54, (some (52, true)), .mv (.tmp 5)⟩,
⟨some 55, (some (52, true)), .mv (.tmp 14)⟩,
⟨some 56, (some (52, true)), .mv (.tmp 4)⟩,
⟨some 57, (some (52, true)), .bin .add (.tmp 56) (.val (.int .i64 2))⟩,
⟨some 58, (some (52, true)), .bin .rem (.tmp 57) (.val (.int .i64 4))⟩,
⟨some 59, (some (52, true)), .callv (.tmp 53) .pure [(.tmp 54), (.tmp 55), (.tmp 58)]⟩,
⟨some 60, (some (52, true)), .un .not (.tmp 59)⟩,
⟨some 61, none, .pick (.tmp 52) (.tmp 60) (.val (.bool false))⟩] [] [2, 3, 4, 5, 6, 12, 13, 14, 17, 38, 61])
(.cond (.tmp 61)
(.reg [⟨some 62, none, .mv (.tmp 2)⟩,
⟨some 63, none, .mv (.tmp 3)⟩,
⟨some 64, none, .mv (.tmp 13)⟩,
⟨some 65, none, .call 204 .pure [(.tmp 63), (.tmp 64)]⟩,
⟨some 66, none, .mv (.tmp 5)⟩,
⟨some 67, none, .mv (.tmp 14)⟩,
⟨some 68, none, .call 204 .pure [(.tmp 66), (.tmp 67)]⟩,
⟨some 69, none, .call 203 .opn [(.tmp 62), (.tmp 65), (.tmp 68)]⟩] [] [2, 3, 4, 5, 6, 12, 13, 17, 38])
(.skip)))))
(.reg [⟨some 70, none, .bin .add (.tmp 38) (.val (.int .i64 1))⟩,
⟨some 38, none, .mv (.tmp 70)⟩] [] [2, 3, 4, 5, 6, 12, 13, 17, 38]))))))))))
(.reg [⟨some 71, none, .bin .add (.tmp 17) (.val (.int .i64 1))⟩,
⟨some 17, none, .mv (.tmp 71)⟩] [] [2, 3, 4, 5, 6, 12, 17]))))))))⟩
theorem pf183_ok : fnOk Tryz.prog 183 pf183 = true := by kernel_rfl

/-- hinterland/block.root -/
def pf184 : PFn := ⟨24, 2, [.tmp 4], .seq
(.reg [⟨some 4, none, .mv (.val (.int .i64 0))⟩] [] [0, 1])
(.seq
(.seq
(.reg [⟨some 5, none, .mv (.tmp 0)⟩,
⟨some 6, none, .mv (.tmp 1)⟩,
⟨some 7, none, .iaS 1 (.tmp 5) (.tmp 6)⟩,
⟨some 8, none, .ld none (.tmp 7)⟩,
⟨some 9, none, .mv (.tmp 1)⟩,
⟨some 10, none, .bin .neq (.tmp 8) (.tmp 9)⟩] [] [0, 1, 10])
(.cond (.tmp 10)
(.reg [⟨some 11, none, .mv (.tmp 0)⟩,
⟨some 12, none, .mv (.tmp 1)⟩,
⟨some 13, none, .mv (.tmp 0)⟩,
⟨some 14, none, .mv (.tmp 0)⟩,
⟨some 15, none, .mv (.tmp 1)⟩,
⟨some 16, none, .iaS 1 (.tmp 14) (.tmp 15)⟩,
⟨some 17, none, .ld none (.tmp 16)⟩,
⟨some 18, none, .call 184 .opn [(.tmp 13), (.tmp 17)]⟩,
⟨some 19, none, .iaS 1 (.tmp 11) (.tmp 12)⟩,
⟨none, none, .st 1 (.tmp 19) (.tmp 18)⟩] [] [0, 1])
(.skip)))
(.seq
(.reg [⟨some 20, none, .mv (.tmp 0)⟩,
⟨some 21, none, .mv (.tmp 1)⟩,
⟨some 22, none, .iaS 1 (.tmp 20) (.tmp 21)⟩,
⟨some 23, none, .ld none (.tmp 22)⟩,
⟨some 4, none, .mv (.tmp 23)⟩] [] [4])
(.ret)))⟩
theorem pf184_ok : fnOk Tryz.prog 184 pf184 = true := by kernel_rfl

/-- slices.insertionSortOrdered[int] -/
def pf185 : PFn := ⟨49, 3, [], .seq
(.reg [⟨some 8, none, .mv (.tmp 1)⟩,
⟨some 9, none, .bin .add (.tmp 8) (.val (.int .i64 1))⟩,
⟨some 6, none, .mv (.tmp 9)⟩] [] [0, 1, 2, 6])
(.blk 0 (.loop (.seq
(.seq
(.reg [⟨some 10, none, .mv (.tmp 6)⟩,
⟨some 11, none, .mv (.tmp 2)⟩,
⟨some 12, none, .bin .lss (.tmp 10) (.tmp 11)⟩] [] [0, 1, 2, 6, 12])
(.cond (.tmp 12)
(.skip)
(.ext 0)))
(.seq
(.blk 1 (.seq
(.reg [⟨some 15, none, .mv (.tmp 6)⟩,
⟨some 7, none, .mv (.tmp 15)⟩] [] [0, 1, 2, 6, 7])
(.blk 2 (.loop (.seq
(.seq
(.reg [⟨some 16, none, .mv (.tmp 7)⟩,
⟨some 17, none, .mv (.tmp 1)⟩,
⟨some 18, none, .bin .gtr (.tmp 16) (.tmp 17)⟩,
⟨some 19, none, .mv (.tmp 18)⟩,
⟨some 20, (some (19, true)), .mv (.tmp 0)⟩,
⟨some 21, (some (19, true)), .mv (.tmp 7)⟩,
⟨some 22, (some (19, true)), .iaS 1 (.tmp 20) (.tmp 21)⟩,
⟨some 23, (some (19, true)), .ld none (.tmp 22)⟩,
⟨some 24, (some (19, true)), .mv (.tmp 0)⟩,
⟨some 25, (some (19, true)), .mv (.tmp 7)⟩,
⟨some 26, (some (19, true)), .bin .sub (.tmp 25) (.val (.int .i64 1))⟩,
⟨some 27, (some (19, true)), .iaS 1 (.tmp 24) (.tmp 26)⟩,
⟨some 28, (some (19, true)), .ld none (.tmp 27)⟩,
⟨some 29, (some (19, true)), .call 191 .pure [(.tmp 23), (.tmp 28)]⟩,
⟨some 30, none, .pick (.tmp 19) (.tmp 29) (.val (.bool false))⟩] [] [0, 1, 2, 6, 7, 30])
(.cond (.tmp 30)
(.skip)
(.ext 2)))
(.seq
(.blk 3 (.reg [⟨some 33, none, .mv (.tmp 0)⟩,
⟨some 34, none, .mv (.tmp 7)⟩,
⟨some 35, none, .mv (.tmp 0)⟩,
⟨some 36, none, .mv (.tmp 7)⟩,
⟨some 37, none, .bin .sub (.tmp 36) (.val (.int .i64 1))⟩,
⟨some 38, none, .mv (.tmp 0)⟩,
⟨some 39, none, .mv (.tmp 7)⟩,
⟨some 40, none, .bin .sub (.tmp 39) (.val (.int .i64 1))⟩,
⟨some 41, none, .iaS 1 (.tmp 38) (.tmp 40)⟩,
⟨some 42, none, .ld none (.tmp 41)⟩,
⟨some 43, none, .mv (.tmp 0)⟩,
⟨some 44, none, .mv (.tmp 7)⟩,
⟨some 45, none, .iaS 1 (.tmp 43) (.tmp 44)⟩,
⟨some 46, none, .ld none (.tmp 45)⟩,
⟨some 47, none, .iaS 1 (.tmp 33) (.tmp 34)⟩,
⟨none, none, .st 1 (.tmp 47) (.tmp 42)⟩,
⟨some 48, none, .iaS 1 (.tmp 35) (.tmp 37)⟩,
⟨none, none, .st 1 (.tmp 48) (.tmp 46)⟩] [] [0, 1, 2, 6, 7]))
(.reg [⟨some 31, none, .mv (.tmp 7)⟩,
⟨some 32, none, .bin .sub (.tmp 31) (.val (.int .i64 1))⟩,
⟨some 7, none, .mv (.tmp 32)⟩] [] [0, 1, 2, 6, 7])))))))
(.reg [⟨some 13, none, .mv (.tmp 6)⟩,
⟨some 14, none, .bin .add (.tmp 13) (.val (.int .i64 1))⟩,
⟨some 6, none, .mv (.tmp 14)⟩] [] [0, 1, 2, 6])))))⟩
theorem pf185_ok : fnOk Tryz.prog 185 pf185 = true := by kernel_rfl

/-- slices.heapSortOrdered[int] -/
def pf186 : PFn := ⟨56, 3, [], .seq
(.reg [⟨some 11, none, .mv (.tmp 1)⟩,
⟨some 6, none, .mv (.tmp 11)⟩] [] [0, 1, 2, 6])
(.seq
(.reg [⟨some 7, none, .mv (.val (.int .i64 0))⟩] [] [0, 1, 2, 6, 7])
(.seq
(.reg [⟨some 12, none, .mv (.tmp 2)⟩,
⟨some 13, none, .mv (.tmp 1)⟩,
⟨some 14, none, .bin .sub (.tmp 12) (.tmp 13)⟩,
⟨some 8, none, .mv (.tmp 14)⟩] [] [0, 6, 7, 8])
(.seq
(.seq
(.reg [⟨some 15, none, .mv (.tmp 8)⟩,
⟨some 16, none, .bin .sub (.tmp 15) (.val (.int .i64 1))⟩,
⟨some 17, none, .bin .quo (.tmp 16) (.val (.int .i64 2))⟩,
⟨some 9, none, .mv (.tmp 17)⟩] [] [0, 6, 7, 8, 9])
(.blk 0 (.loop (.seq
(.seq
(.reg [⟨some 18, none, .mv (.tmp 9)⟩,
⟨some 19, none, .bin .geq (.tmp 18) (.val (.int .i64 0))⟩] [] [0, 6, 7, 8, 9, 19])
(.cond (.tmp 19)
(.skip)
(.ext 0)))
(.seq
(.blk 1 (.reg [⟨some 22, none, .mv (.tmp 0)⟩,
⟨some 23, none, .mv (.tmp 9)⟩,
⟨some 24, none, .mv (.tmp 8)⟩,
⟨some 25, none, .mv (.tmp 6)⟩,
⟨some 26, none, .call 206 .opn [(.tmp 22), (.tmp 23), (.tmp 24), (.tmp 25)]⟩] [] [0, 6, 7, 8, 9]))
(.reg [⟨some 20, none, .mv (.tmp 9)⟩,
⟨some 21, none, .bin .sub (.tmp 20) (.val (.int .i64 1))⟩,
⟨some 9, none, .mv (.tmp 21)⟩] [] [0, 6, 7, 8, 9]))))))
(.seq
(.reg [⟨some 27, none, .mv (.tmp 8)⟩,
⟨some 28, none, .bin .sub (.tmp 27) (.val (.int .i64 1))⟩,
⟨some 10, none, .mv (.tmp 28)⟩] [] [0, 6, 7, 10])
(.blk 2 (.loop (.seq
(.seq
(.reg [⟨some 29, none, .mv (.tmp 10)⟩,
⟨some 30, none, .bin .geq (.tmp 29) (.val (.int .i64 0))⟩] [] [0, 6, 7, 10, 30])
(.cond (.tmp 30)
(.skip)
(.ext 2)))
(.seq
(.blk 3 (.seq
(.reg [⟨some 33, none, .mv (.tmp 0)⟩,
⟨some 34, none, .mv (.tmp 6)⟩,
⟨some 35, none, .mv (.tmp 0)⟩,
⟨some 36, none, .mv (.tmp 6)⟩,
⟨some 37, none, .mv (.tmp 10)⟩,
⟨some 38, none, .bin .add (.tmp 36) (.tmp 37)⟩,
⟨some 39, none, .mv (.tmp 0)⟩,
⟨some 40, none, .mv (.tmp 6)⟩,
⟨some 41, none, .mv (.tmp 10)⟩,
⟨some 42, none, .bin .add (.tmp 40) (.tmp 41)⟩,
⟨some 43, none, .iaS 1 (.tmp 39) (.tmp 42)⟩,
⟨some 44, none, .ld none (.tmp 43)⟩,
⟨some 45, none, .mv (.tmp 0)⟩,
⟨some 46, none, .mv (.tmp 6)⟩,
⟨some 47, none, .iaS 1 (.tmp 45) (.tmp 46)⟩,
⟨some 48, none, .ld none (.tmp 47)⟩,
⟨some 49, none, .iaS 1 (.tmp 33) (.tmp 34)⟩,
⟨none, none, .st 1 (.tmp 49) (.tmp 44)⟩,
⟨some 50, none, .iaS 1 (.tmp 35) (.tmp 38)⟩,
⟨none, none, .st 1 (.tmp 50) (.tmp 48)⟩] [] [0, 6, 7, 10])
(.reg [⟨some 51, none, .mv (.tmp 0)⟩,
⟨some 52, none, .mv (.tmp 7)⟩,
⟨some 53, none, .mv (.tmp 10)⟩,
⟨some 54, none, .mv (.tmp 6)⟩,
⟨some 55, none, .call 206 .opn [(.tmp 51), (.tmp 52), (.tmp 53), (.tmp 54)]⟩] [] [0, 6, 7, 10])))
(.reg [⟨some 31, none, .mv (.tmp 10)⟩,
⟨some 32, none, .bin .sub (.tmp 31) (.val (.int .i64 1))⟩,
⟨some 10, none, .mv (.tmp 32)⟩] [] [0, 6, 7, 10])))))))))⟩
theorem pf186_ok : fnOk Tryz.prog 186 pf186 = true := by kernel_rfl

/-- slices.breakPatternsOrdered[int] -/
def pf187 : PFn := ⟨65, 3, [], .seq
(.reg [⟨some 11, none, .mv (.tmp 2)⟩,
⟨some 12, none, .mv (.tmp 1)⟩,
⟨some 13, none, .bin .sub (.tmp 11) (.tmp 12)⟩,
⟨some 6, none, .mv (.tmp 13)⟩] [] [0, 1, 6])
(.seq
(.reg [⟨some 14, none, .mv (.tmp 6)⟩,
⟨some 15, none, .bin .geq (.tmp 14) (.val (.int .i64 8))⟩] [] [0, 1, 6, 15])
(.cond (.tmp 15)
(.seq
(.reg [⟨some 16, none, .mv (.tmp 6)⟩,
⟨some 17, none, .conv .u64 (.tmp 16)⟩,
⟨some 7, none, .zer 227 (.int .u64 0)⟩,
⟨none, none, .st 1 (.tmp 7) (.tmp 17)⟩] [] [0, 1, 6, 7])
(.seq
(.reg [⟨some 18, none, .mv (.tmp 6)⟩,
⟨some 19, none, .call 198 .pure [(.tmp 18)]⟩,
⟨some 8, none, .mv (.tmp 19)⟩] [] [0, 1, 6, 7, 8])
(.seq
(.reg [⟨some 20, none, .mv (.tmp 1)⟩,
⟨some 21, none, .mv (.tmp 6)⟩,
⟨some 22, none, .bin .quo (.tmp 21) (.val (.int .i64 4))⟩,
⟨some 23, none, .bin .mul (.tmp 22) (.val (.int .i64 2))⟩,
⟨some 24, none, .bin .add (.tmp 20) (.tmp 23)⟩,
⟨some 25, none, .bin .sub (.tmp 24) (.val (.int .i64 1))⟩,
⟨some 9, none, .mv (.tmp 25)⟩] [] [0, 1, 6, 7, 8, 9])
(.blk 0 (.loop (.seq
(.seq
(.reg [⟨some 26, none, .mv (.tmp 9)⟩,
⟨some 27, none, .mv (.tmp 1)⟩,
⟨some 28, none, .mv (.tmp 6)⟩,
⟨some 29, none, .bin .quo (.tmp 28) (.val (.int .i64 4))⟩,
⟨some 30, none, .bin .mul (.tmp 29) (.val (.int .i64 2))⟩,
⟨some 31, none, .bin .add (.tmp 27) (.tmp 30)⟩,
⟨some 32, none, .bin .add (.tmp 31) (.val (.int .i64 1))⟩,
⟨some 33, none, .bin .leq (.tmp 26) (.tmp 32)⟩] [] [0, 1, 6, 7, 8, 9, 33])
(.cond (.tmp 33)
(.skip)
(.ext 0)))
(.seq
(.blk 1 (.seq
(.reg [⟨some 36, none, .call 199 .opn [(.tmp 7)]⟩,
⟨some 37, none, .mv (.tmp 8)⟩,
⟨some 38, none, .bin .sub (.tmp 37) (.val (.int .u64 1))⟩,
⟨some 39, none, .bin .and (.tmp 36) (.tmp 38)⟩,
⟨some 40, none, .conv .i64 (.tmp 39)⟩,
⟨some 10, none, .mv (.tmp 40)⟩] [] [0, 1, 6, 7, 8, 9, 10])
(.seq
(.seq
(.reg [⟨some 41, none, .mv (.tmp 10)⟩,
⟨some 42, none, .mv (.tmp 6)⟩,
⟨some 43, none, .bin .geq (.tmp 41) (.tmp 42)⟩] [] [0, 1, 6, 7, 8, 9, 10, 43])
(.cond (.tmp 43)
(.reg [⟨some 44, none, .mv (.tmp 10)⟩,
⟨some 45, none, .mv (.tmp 6)⟩,
⟨some 46, none, .bin .sub (.tmp 44) (.tmp 45)⟩,
⟨some 10, none, .mv (.tmp 46)⟩] [] [0, 1, 6, 7, 8, 9, 10])
(.skip)))
(.reg [⟨some 47, none, .mv (.tmp 0)⟩,
⟨some 48, none, .mv (.tmp 9)⟩,
⟨some 49, none, .mv (.tmp 0)⟩,
⟨some 50, none, .mv (.tmp 1)⟩,
⟨some 51, none, .mv (.tmp 10)⟩,
⟨some 52, none, .bin .add (.tmp 50) (.tmp 51)⟩,
⟨some 53, none, .mv (.tmp 0)⟩,
⟨some 54, none, .mv (.tmp 1)⟩,
⟨some 55, none, .mv (.tmp 10)⟩,
⟨some 56, none, .bin .add (.tmp 54) (.tmp 55)⟩,
⟨some 57, none, .iaS 1 (.tmp 53) (.tmp 56)⟩,
⟨some 58, none, .ld none (.tmp 57)⟩,
⟨some 59, none, .mv (.tmp 0)⟩,
⟨some 60, none, .mv (.tmp 9)⟩,
⟨some 61, none, .iaS 1 (.tmp 59) (.tmp 60)⟩,
⟨some 62, none, .ld none (.tmp 61)⟩,
⟨some 63, none, .iaS 1 (.tmp 47) (.tmp 48)⟩,
⟨none, none, .st 1 (.tmp 63) (.tmp 58)⟩,
⟨some 64, none, .iaS 1 (.tmp 49) (.tmp 52)⟩,
⟨none, none, .st 1 (.tmp 64) (.tmp 62)⟩] [] [0, 1, 6, 7, 8, 9]))))
(.reg [⟨some 34, none, .mv (.tmp 9)⟩,
⟨some 35, none, .bin .add (.tmp 34) (.val (.int .i64 1))⟩,
⟨some 9, none, .mv (.tmp 35)⟩] [] [0, 1, 6, 7, 8, 9]))))))))
(.skip)))⟩
theorem pf187_ok : fnOk Tryz.prog 187 pf187 = true := by kernel_rfl

/-- slices.choosePivotOrdered[int] -/
def pf188 : PFn := ⟨57, 3, [.tmp 6, .tmp 7], .seq
(.reg [⟨some 6, none, .mv (.val (.int .i64 0))⟩,
⟨some 7, none, .mv (.val (.int .i64 0))⟩] [] [0, 1, 2])
(.seq
(.reg [⟨some 13, none, .mv (.tmp 2)⟩,
⟨some 14, none, .mv (.tmp 1)⟩,
⟨some 15, none, .bin .sub (.tmp 13) (.tmp 14)⟩,
⟨some 8, none, .mv (.tmp 15)⟩] [] [0, 1, 8])
(.seq
(.reg [⟨some 9, none, .zer 3 (.int .i64 0)⟩] [] [0, 1, 8, 9])
(.seq
(.reg [⟨some 16, none, .mv (.tmp 1)⟩,
⟨some 17, none, .mv (.tmp 8)⟩,
⟨some 18, none, .bin .quo (.tmp 17) (.val (.int .i64 4))⟩,
⟨some 19, none, .bin .mul (.tmp 18) (.val (.int .i64 1))⟩,
⟨some 20, none, .bin .add (.tmp 16) (.tmp 19)⟩,
⟨some 10, none, .mv (.tmp 20)⟩] [] [0, 1, 8, 9, 10])
(.seq
(.reg [⟨some 21, none, .mv (.tmp 1)⟩,
⟨some 22, none, .mv (.tmp 8)⟩,
⟨some 23, none, .bin .quo (.tmp 22) (.val (.int .i64 4))⟩,
⟨some 24, none, .bin .mul (.tmp 23) (.val (.int .i64 2))⟩,
⟨some 25, none, .bin .add (.tmp 21) (.tmp 24)⟩,
⟨some 11, none, .mv (.tmp 25)⟩] [] [0, 1, 8, 9, 10, 11])
(.seq
(.reg [⟨some 26, none, .mv (.tmp 1)⟩,
⟨some 27, none, .mv (.tmp 8)⟩,
⟨some 28, none, .bin .quo (.tmp 27) (.val (.int .i64 4))⟩,
⟨some 29, none, .bin .mul (.tmp 28) (.val (.int .i64 3))⟩,
⟨some 30, none, .bin .add (.tmp 26) (.tmp 29)⟩,
⟨some 12, none, .mv (.tmp 30)⟩] [] [0, 8, 9, 10, 11, 12])
(.seq
(.seq
(.reg [⟨some 31, none, .mv (.tmp 8)⟩,
⟨some 32, none, .bin .geq (.tmp 31) (.val (.int .i64 8))⟩] [] [0, 8, 9, 10, 11, 12, 32])
(.cond (.tmp 32)
(.seq
(.seq
(.reg [⟨some 33, none, .mv (.tmp 8)⟩,
⟨some 34, none, .bin .geq (.tmp 33) (.val (.int .i64 50))⟩] [] [0, 9, 10, 11, 12, 34])
(.cond (.tmp 34)
(.seq
(.reg [⟨some 35, none, .mv (.tmp 0)⟩,
⟨some 36, none, .mv (.tmp 10)⟩,
⟨some 37, none, .call 207 .pure [(.tmp 35), (.tmp 36), (.tmp 9)]⟩,
⟨some 10, none, .mv (.tmp 37)⟩] [] [0, 9, 10, 11, 12])
(.seq
(.reg [⟨some 38, none, .mv (.tmp 0)⟩,
⟨some 39, none, .mv (.tmp 11)⟩,
⟨some 40, none, .call 207 .pure [(.tmp 38), (.tmp 39), (.tmp 9)]⟩,
⟨some 11, none, .mv (.tmp 40)⟩] [] [0, 9, 10, 11, 12])
(.reg [⟨some 41, none, .mv (.tmp 0)⟩,
⟨some 42, none, .mv (.tmp 12)⟩,
⟨some 43, none, .call 207 .pure [(.tmp 41), (.tmp 42), (.tmp 9)]⟩,
⟨some 12, none, .mv (.tmp 43)⟩] [] [0, 9, 10, 11, 12])))
(.skip)))
(.reg [⟨some 44, none, .mv (.tmp 0)⟩,
⟨some 45, none, .mv (.tmp 10)⟩,
⟨some 46, none, .mv (.tmp 11)⟩,
⟨some 47, none, .mv (.tmp 12)⟩,
⟨some 48, none, .call 208 .pure [(.tmp 44), (.tmp 45), (.tmp 46), (.tmp 47), (.tmp 9)]⟩,
⟨some 11, none, .mv (.tmp 48)⟩] [] [9, 11]))
(.skip)))
(.seq
(.reg [⟨some 49, none, .ld none (.tmp 9)⟩] [] [11, 49])
(.blk 0 (.seq
(.reg [⟨some 52, none, .bin .eql (.tmp 49) (.val (.int .i64 0))⟩,
⟨some 51, none, .mv (.tmp 52)⟩] [] [11, 49, 51])
(.cond (.tmp 51)
(.seq
(.reg [⟨some 53, none, .mv (.tmp 11)⟩,
⟨some 6, none, .mv (.tmp 53)⟩,
⟨some 7, none, .mv (.val (.int .i64 1))⟩] [] [6, 7])
(.ret))
(.seq
(.reg [⟨some 55, none, .bin .eql (.tmp 49) (.val (.int .i64 12))⟩,
⟨some 54, none, .mv (.tmp 55)⟩] [] [11, 54])
(.cond (.tmp 54)
(.seq
(.reg [⟨some 56, none, .mv (.tmp 11)⟩,
⟨some 6, none, .mv (.tmp 56)⟩,
⟨some 7, none, .mv (.val (.int .i64 2))⟩] [] [6, 7])
(.ret))
(.seq
(.reg [⟨some 50, none, .mv (.tmp 11)⟩,
⟨some 6, none, .mv (.tmp 50)⟩,
⟨some 7, none, .mv (.val (.int .i64 0))⟩] [] [6, 7])
(.ret))))))))))))))⟩
theorem pf188_ok : fnOk Tryz.prog 188 pf188 = true := by kernel_rfl

/-- slices.reverseRangeOrdered[int] -/
def pf189 : PFn := ⟨32, 3, [], .seq
(.reg [⟨some 8, none, .mv (.tmp 1)⟩,
⟨some 6, none, .mv (.tmp 8)⟩] [] [0, 2, 6])
(.seq
(.reg [⟨some 9, none, .mv (.tmp 2)⟩,
⟨some 10, none, .bin .sub (.tmp 9) (.val (.int .i64 1))⟩,
⟨some 7, none, .mv (.tmp 10)⟩] [] [0, 6, 7])
(.blk 0 (.loop (.seq
(.seq
(.reg [⟨some 11, none, .mv (.tmp 6)⟩,
⟨some 12, none, .mv (.tmp 7)⟩,
⟨some 13, none, .bin .lss (.tmp 11) (.tmp 12)⟩] [] [0, 6, 7, 13])
(.cond (.tmp 13)
(.skip)
(.ext 0)))
(.blk 1 (.seq
(.reg [⟨some 14, none, .mv (.tmp 0)⟩,
⟨some 15, none, .mv (.tmp 6)⟩,
⟨some 16, none, .mv (.tmp 0)⟩,
⟨some 17, none, .mv (.tmp 7)⟩,
⟨some 18, none, .mv (.tmp 0)⟩,
⟨some 19, none, .mv (.tmp 7)⟩,
⟨some 20, none, .iaS 1 (.tmp 18) (.tmp 19)⟩,
⟨some 21, none, .ld none (.tmp 20)⟩,
⟨some 22, none, .mv (.tmp 0)⟩,
⟨some 23, none, .mv (.tmp 6)⟩,
⟨some 24, none, .iaS 1 (.tmp 22) (.tmp 23)⟩,
⟨some 25, none, .ld none (.tmp 24)⟩,
⟨some 26, none, .iaS 1 (.tmp 14) (.tmp 15)⟩,
⟨none, none, .st 1 (.tmp 26) (.tmp 21)⟩,
⟨some 27, none, .iaS 1 (.tmp 16) (.tmp 17)⟩,
⟨none, none, .st 1 (.tmp 27) (.tmp 25)⟩] [] [0, 6, 7])
(.seq
(.reg [⟨some 28, none, .mv (.tmp 6)⟩,
⟨some 29, none, .bin .add (.tmp 28) (.val (.int .i64 1))⟩,
⟨some 6, none, .mv (.tmp 29)⟩] [] [0, 6, 7])
(.reg [⟨some 30, none, .mv (.tmp 7)⟩,
⟨some 31, none, .bin .sub (.tmp 30) (.val (.int .i64 1))⟩,
⟨some 7, none, .mv (.tmp 31)⟩] [] [0, 6, 7]))))))))⟩
theorem pf189_ok : fnOk Tryz.prog 189 pf189 = true := by kernel_rfl

/-- slices.partialInsertionSortOrdered[int] -/
def pf190 : PFn := ⟨133, 3, [.tmp 6], .seq
(.reg [⟨some 6, none, .mv (.val (.bool false))⟩] [] [0, 1, 2])
(.seq
(.reg [⟨some 11, none, .mv (.tmp 1)⟩,
⟨some 12, none, .bin .add (.tmp 11) (.val (.int .i64 1))⟩,
⟨some 7, none, .mv (.tmp 12)⟩] [] [0, 1, 2, 7])
(.seq
(.seq
(.reg [⟨some 8, none, .mv (.val (.int .i64 0))⟩] [] [0, 1, 2, 7, 8])
(.blk 0 (.loop (.seq
(.seq
(.reg [⟨some 13, none, .mv (.tmp 8)⟩,
⟨some 14, none, .bin .lss (.tmp 13) (.val (.int .i64 5))⟩] [] [0, 1, 2, 7, 8, 14])
(.cond (.tmp 14)
(.skip)
(.ext 0)))
(.seq
(.blk 1 (.seq
(.blk 2 (.loop (.seq
(.seq
(.reg [⟨some 17, none, .mv (.tmp 7)⟩,
⟨some 18, none, .mv (.tmp 2)⟩,
⟨some 19, none, .bin .lss (.tmp 17) (.tmp 18)⟩,
⟨some 20, none, .mv (.tmp 19)⟩,
⟨some 21, (some (20, true)), .mv (.tmp 0)⟩,
⟨some 22, (some (20, true)), .mv (.tmp 7)⟩,
⟨some 23, (some (20, true)), .iaS 1 (.tmp 21) (.tmp 22)⟩,
⟨some 24, (some (20, true)), .ld none (.tmp 23)⟩,
⟨some 25, (some (20, true)), .mv (.tmp 0)⟩,
⟨some 26, (some (20, true)), .mv (.tmp 7)⟩,
⟨some 27, (some (20, true)), .bin .sub (.tmp 26) (.val (.int .i64 1))⟩,
⟨some 28, (some (20, true)), .iaS 1 (.tmp 25) (.tmp 27)⟩,
⟨some 29, (some (20, true)), .ld none (.tmp 28)⟩,
⟨some 30, (some (20, true)), .call 191 .pure [(.tmp 24), (.tmp 29)]⟩,
⟨some 31, (some (20, true)), .un .not (.tmp 30)⟩,
⟨some 32, none, .pick (.tmp 20) (.tmp 31) (.val (.bool false))⟩] [] [0, 1, 2, 7, 8, 32])
(.cond (.tmp 32)
(.skip)
(.ext 2)))
(.blk 3 (.reg [⟨some 33, none, .mv (.tmp 7)⟩,
⟨some 34, none, .bin .add (.tmp 33) (.val (.int .i64 1))⟩,
⟨some 7, none, .mv (.tmp 34)⟩] [] [0, 1, 2, 7, 8])))))
(.seq
(.seq
(.reg [⟨some 35, none, .mv (.tmp 7)⟩,
⟨some 36, none, .mv (.tmp 2)⟩,
⟨some 37, none, .bin .eql (.tmp 35) (.tmp 36)⟩] [] [0, 1, 2, 7, 8, 37])
(.cond (.tmp 37)
(.seq
(.reg [⟨some 6, none, .mv (.val (.bool true))⟩] [] [6])
(.ret))
(.skip)))
(.seq
(.seq
(.reg [⟨some 38, none, .mv (.tmp 2)⟩,
⟨some 39, none, .mv (.tmp 1)⟩,
⟨some 40, none, .bin .sub (.tmp 38) (.tmp 39)⟩,
⟨some 41, none, .bin .lss (.tmp 40) (.val (.int .i64 50))⟩] [] [0, 1, 2, 7, 8, 41])
(.cond (.tmp 41)
(.seq
(.reg [⟨some 6, none, .mv (.val (.bool false))⟩] [] [6])
(.ret))
(.skip)))
(.seq
(.reg [⟨some 42, none, .mv (.tmp 0)⟩,
⟨some 43, none, .mv (.tmp 7)⟩,
⟨some 44, none, .mv (.tmp 0)⟩,
⟨some 45, none, .mv (.tmp 7)⟩,
⟨some 46, none, .bin .sub (.tmp 45) (.val (.int .i64 1))⟩,
⟨some 47, none, .mv (.tmp 0)⟩,
⟨some 48, none, .mv (.tmp 7)⟩,
⟨some 49, none, .bin .sub (.tmp 48) (.val (.int .i64 1))⟩,
⟨some 50, none, .iaS 1 (.tmp 47) (.tmp 49)⟩,
⟨some 51, none, .ld none (.tmp 50)⟩,
⟨some 52, none, .mv (.tmp 0)⟩,
⟨some 53, none, .mv (.tmp 7)⟩,
⟨some 54, none, .iaS 1 (.tmp 52) (.tmp 53)⟩,
⟨some 55, none, .ld none (.tmp 54)⟩,
⟨some 56, none, .iaS 1 (.tmp 42) (.tmp 43)⟩,
⟨none, none, .st 1 (.tmp 56) (.tmp 51)⟩,
⟨some 57, none, .iaS 1 (.tmp 44) (.tmp 46)⟩,
⟨none, none, .st 1 (.tmp 57) (.tmp 55)⟩] [] [0, 1, 2, 7, 8])
(.seq
(.seq
(.reg [⟨some 58, none, .mv (.tmp 7)⟩,
⟨some 59, none, .mv (.tmp 1)⟩,
⟨some 60, none, .bin .sub (.tmp 58) (.tmp 59)⟩,
⟨some 61, none, .bin .geq (.tmp 60) (.val (.int .i64 2))⟩] [] [0, 1, 2, 7, 8, 61])
(.cond (.tmp 61)
(.seq
(.reg [⟨some 62, none, .mv (.tmp 7)⟩,
⟨some 63, none, .bin .sub (.tmp 62) (.val (.int .i64 1))⟩,
⟨some 9, none, .mv (.tmp 63)⟩] [] [0, 1, 2, 7, 8, 9])
(.blk 4 (.loop (.seq
(.seq
(.reg [⟨some 64, none, .mv (.tmp 9)⟩,
⟨some 65, none, .bin .geq (.tmp 64) (.val (.int .i64 1))⟩] [] [0, 1, 2, 7, 8, 9, 65])
(.cond (.tmp 65)
(.skip)
(.ext 4)))
(.seq
(.blk 5 (.seq
(.seq
(.reg [⟨some 68, none, .mv (.tmp 0)⟩,
⟨some 69, none, .mv (.tmp 9)⟩,
⟨some 70, none, .iaS 1 (.tmp 68) (.tmp 69)⟩,
⟨some 71, none, .ld none (.tmp 70)⟩,
⟨some 72, none, .mv (.tmp 0)⟩,
⟨some 73, none, .mv (.tmp 9)⟩,
⟨some 74, none, .bin .sub (.tmp 73) (.val (.int .i64 1))⟩,
⟨some 75, none, .iaS 1 (.tmp 72) (.tmp 74)⟩,
⟨some 76, none, .ld none (.tmp 75)⟩,
⟨some 77, none, .call 191 .pure [(.tmp 71), (.tmp 76)]⟩,
⟨some 78, none, .un .not (.tmp 77)⟩] [] [0, 1, 2, 7, 8, 9, 78])
(.cond (.tmp 78)
(.ext 4)
(.skip)))
(.reg [⟨some 79, none, .mv (.tmp 0)⟩,
⟨some 80, none, .mv (.tmp 9)⟩,
⟨some 81, none, .mv (.tmp 0)⟩,
⟨some 82, none, .mv (.tmp 9)⟩,
⟨some 83, none, .bin .sub (.tmp 82) (.val (.int .i64 1))⟩,
⟨some 84, none, .mv (.tmp 0)⟩,
⟨some 85, none, .mv (.tmp 9)⟩,
⟨some 86, none, .bin .sub (.tmp 85) (.val (.int .i64 1))⟩,
⟨some 87, none, .iaS 1 (.tmp 84) (.tmp 86)⟩,
⟨some 88, none, .ld none (.tmp 87)⟩,
⟨some 89, none, .mv (.tmp 0)⟩,
⟨some 90, none, .mv (.tmp 9)⟩,
⟨some 91, none, .iaS 1 (.tmp 89) (.tmp 90)⟩,
⟨some 92, none, .ld none (.tmp 91)⟩,
⟨some 93, none, .iaS 1 (.tmp 79) (.tmp 80)⟩,
⟨none, none, .st 1 (.tmp 93) (.tmp 88)⟩,
⟨some 94, none, .iaS 1 (.tmp 81) (.tmp 83)⟩,
⟨none, none, .st 1 (.tmp 94) (.tmp 92)⟩] [] [0, 1, 2, 7, 8, 9])))
(.reg [⟨some 66, none, .mv (.tmp 9)⟩,
⟨some 67, none, .bin .sub (.tmp 66) (.val (.int .i64 1))⟩,
⟨some 9, none, .mv (.tmp 67)⟩] [] [0, 1, 2, 7, 8, 9]))))))
(.skip)))
(.seq
(.reg [⟨some 95, none, .mv (.tmp 2)⟩,
⟨some 96, none, .mv (.tmp 7)⟩,
⟨some 97, none, .bin .sub (.tmp 95) (.tmp 96)⟩,
⟨some 98, none, .bin .geq (.tmp 97) (.val (.int .i64 2))⟩] [] [0, 1, 2, 7, 8, 98])
(.cond (.tmp 98)
(.seq
(.reg [⟨some 99, none, .mv (.tmp 7)⟩,
⟨some 100, none, .bin .add (.tmp 99) (.val (.int .i64 1))⟩,
⟨some 10, none, .mv (.tmp 100)⟩] [] [0, 1, 2, 7, 8, 10])
(.blk 6 (.loop (.seq
(.seq
(.reg [⟨some 101, none, .mv (.tmp 10)⟩,
⟨some 102, none, .mv (.tmp 2)⟩,
⟨some 103, none, .bin .lss (.tmp 101) (.tmp 102)⟩] [] [0, 1, 2, 7, 8, 10, 103])
(.cond (.tmp 103)
(.skip)
(.ext 6)))
(.seq
(.blk 7 (.seq
(.seq
(.reg [⟨some 106, none, .mv (.tmp 0)⟩,
⟨some 107, none, .mv (.tmp 10)⟩,
⟨some 108, none, .iaS 1 (.tmp 106) (.tmp 107)⟩,
⟨some 109, none, .ld none (.tmp 108)⟩,
⟨some 110, none, .mv (.tmp 0)⟩,
⟨some 111, none, .mv (.tmp 10)⟩,
⟨some 112, none, .bin .sub (.tmp 111) (.val (.int .i64 1))⟩,
⟨some 113, none, .iaS 1 (.tmp 110) (.tmp 112)⟩,
⟨some 114, none, .ld none (.tmp 113)⟩,
⟨some 115, none, .call 191 .pure [(.tmp 109), (.tmp 114)]⟩,
⟨some 116, none, .un .not (.tmp 115)⟩] [] [0, 1, 2, 7, 8, 10, 116])
(.cond (.tmp 116)
(.ext 6)
(.skip)))
(.reg [⟨some 117, none, .mv (.tmp 0)⟩,
⟨some 118, none, .mv (.tmp 10)⟩,
⟨some 119, none, .mv (.tmp 0)⟩,
⟨some 120, none, .mv (.tmp 10)⟩,
⟨some 121, none, .bin .sub (.tmp 120) (.val (.int .i64 1))⟩,
⟨some 122, none, .mv (.tmp 0)⟩,
⟨some 123, none, .mv (.tmp 10)⟩,
⟨some 124, none, .bin .sub (.tmp 123) (.val (.int .i64 1))⟩,
⟨some 125, none, .iaS 1 (.tmp 122) (.tmp 124)⟩,
⟨some 126, none, .ld none (.tmp 125)⟩,
⟨some 127, none, .mv (.tmp 0)⟩,
⟨some 128, none, .mv (.tmp 10)⟩,
⟨some 129, none, .iaS 1 (.tmp 127) (.tmp 128)⟩,
⟨some 130, none, .ld none (.tmp 129)⟩,
⟨some 131, none, .iaS 1 (.tmp 117) (.tmp 118)⟩,
⟨none, none, .st 1 (.tmp 131) (.tmp 126)⟩,
⟨some 132, none, .iaS 1 (.tmp 119) (.tmp 121)⟩,
⟨none, none, .st 1 (.tmp 132) (.tmp 130)⟩] [] [0, 1, 2, 7, 8, 10])))
(.reg [⟨some 104, none, .mv (.tmp 10)⟩,
⟨some 105, none, .bin .add (.tmp 104) (.val (.int .i64 1))⟩,
⟨some 10, none, .mv (.tmp 105)⟩] [] [0, 1, 2, 7, 8, 10]))))))
(.skip)))))))))
(.reg [⟨some 15, none, .mv (.tmp 8)⟩,
⟨some 16, none, .bin .add (.tmp 15) (.val (.int .i64 1))⟩,
⟨some 8, none, .mv (.tmp 16)⟩] [] [0, 1, 2, 7, 8]))))))
(.seq
(.reg [⟨some 6, none, .mv (.val (.bool false))⟩] [] [6])
(.ret))))⟩
theorem pf190_ok : fnOk Tryz.prog 190 pf190 = true := by kernel_rfl

/-- cmp.Less[int] -/
def pf191 : PFn := ⟨17, 2, [.tmp 4], .seq
(.reg [⟨some 4, none, .mv (.val (.bool false))⟩] [] [0, 1])
(.seq
(.reg [⟨some 5, none, .mv (.tmp 0)⟩,
⟨some 6, none, .call 150 .pure [(.tmp 5)]⟩,
⟨some 7, none, .mv (.tmp 6)⟩,
⟨some 8, (some (7, true)), .mv (.tmp 1)⟩,
⟨some 9, (some (7, true)), .call 150 .pure [(.tmp 8)]⟩,
⟨some 10, (some (7, true)), .un .not (.tmp 9)⟩,
⟨some 11, none, .pick (.tmp 7) (.tmp 10) (.val (.bool false))⟩,
⟨some 12, none, .mv (.tmp 11)⟩,
⟨some 13, (some (12, false)), .mv (.tmp 0)⟩,
⟨some 14, (some (12, false)), .mv (.tmp 1)⟩,
⟨some 15, (some (12, false)), .bin .lss (.tmp 13) (.tmp 14)⟩,
⟨some 16, none, .pick (.tmp 12) (.val (.bool true)) (.tmp 15)⟩,
⟨some 4, none, .mv (.tmp 16)⟩] [] [4])
(.ret))⟩
theorem pf191_ok : fnOk Tryz.prog 191 pf191 = true := by kernel_rfl

/-- slices.partitionEqualOrdered[int] -/
def pf192 : PFn := ⟨84, 4, [.tmp 8], .seq
(.reg [⟨some 8, none, .mv (.val (.int .i64 0))⟩] [] [0, 1, 2, 3])
(.seq
(.reg [⟨some 11, none, .mv (.tmp 0)⟩,
⟨some 12, none, .mv (.tmp 1)⟩,
⟨some 13, none, .mv (.tmp 0)⟩,
⟨some 14, none, .mv (.tmp 3)⟩,
⟨some 15, none, .mv (.tmp 0)⟩,
⟨some 16, none, .mv (.tmp 3)⟩,
⟨some 17, none, .iaS 1 (.tmp 15) (.tmp 16)⟩,
⟨some 18, none, .ld none (.tmp 17)⟩,
⟨some 19, none, .mv (.tmp 0)⟩,
⟨some 20, none, .mv (.tmp 1)⟩,
⟨some 21, none, .iaS 1 (.tmp 19) (.tmp 20)⟩,
⟨some 22, none, .ld none (.tmp 21)⟩,
⟨some 23, none, .iaS 1 (.tmp 11) (.tmp 12)⟩,
⟨none, none, .st 1 (.tmp 23) (.tmp 18)⟩,
⟨some 24, none, .iaS 1 (.tmp 13) (.tmp 14)⟩,
⟨none, none, .st 1 (.tmp 24) (.tmp 22)⟩] [] [0, 1, 2])
(.seq
(.reg [⟨some 25, none, .mv (.tmp 1)⟩,
⟨some 26, none, .bin .add (.tmp 25) (.val (.int .i64 1))⟩,
⟨some 27, none, .mv (.tmp 2)⟩,
⟨some 28, none, .bin .sub (.tmp 27) (.val (.int .i64 1))⟩,
⟨some 9, none, .mv (.tmp 26)⟩,
⟨some 10, none, .mv (.tmp 28)⟩] [] [0, 1, 9, 10])
(.seq
(.blk 0 (.loop (.blk 1 (.seq
(.blk 2 (.loop (.seq
(.seq
(.reg [⟨some 29, none, .mv (.tmp 9)⟩,
⟨some 30, none, .mv (.tmp 10)⟩,
⟨some 31, none, .bin .leq (.tmp 29) (.tmp 30)⟩,
⟨some 32, none, .mv (.tmp 31)⟩,
⟨some 33, (some (32, true)), .mv (.tmp 0)⟩,
⟨some 34, (some (32, true)), .mv (.tmp 1)⟩,
⟨some 35, (some (32, true)), .iaS 1 (.tmp 33) (.tmp 34)⟩,
⟨some 36, (some (32, true)), .ld none (.tmp 35)⟩,
⟨some 37, (some (32, true)), .mv (.tmp 0)⟩,
⟨some 38, (some (32, true)), .mv (.tmp 9)⟩,
⟨some 39, (some (32, true)), .iaS 1 (.tmp 37) (.tmp 38)⟩,
⟨some 40, (some (32, true)), .ld none (.tmp 39)⟩,
⟨some 41, (some (32, true)), .call 191 .pure [(.tmp 36), (.tmp 40)]⟩,
⟨some 42, (some (32, true)), .un .not (.tmp 41)⟩,
⟨some 43, none, .pick (.tmp 32) (.tmp 42) (.val (.bool false))⟩] [] [0, 1, 9, 10, 43])
(.cond (.tmp 43)
(.skip)
(.ext 2)))
(.blk 3 (.reg [⟨some 44, none, .mv (.tmp 9)⟩,
⟨some 45, none, .bin .add (.tmp 44) (.val (.int .i64 1))⟩,
⟨some 9, none, .mv (.tmp 45)⟩] [] [0, 1, 9, 10])))))
(.seq
(.blk 4 (.loop (.seq
(.seq
(.reg [⟨some 46, none, .mv (.tmp 9)⟩,
⟨some 47, none, .mv (.tmp 10)⟩,
⟨some 48, none, .bin .leq (.tmp 46) (.tmp 47)⟩,
⟨some 49, none, .mv (.tmp 48)⟩,
⟨some 50, (some (49, true)), .mv (.tmp 0)⟩,
⟨some 51, (some (49, true)), .mv (.tmp 1)⟩,
⟨some 52, (some (49, true)), .iaS 1 (.tmp 50) (.tmp 51)⟩,
⟨some 53, (some (49, true)), .ld none (.tmp 52)⟩,
⟨some 54, (some (49, true)), .mv (.tmp 0)⟩,
⟨some 55, (some (49, true)), .mv (.tmp 10)⟩,
⟨some 56, (some (49, true)), .iaS 1 (.tmp 54) (.tmp 55)⟩,
⟨some 57, (some (49, true)), .ld none (.tmp 56)⟩,
⟨some 58, (some (49, true)), .call 191 .pure [(.tmp 53), (.tmp 57)]⟩,
⟨some 59, none, .pick (.tmp 49) (.tmp 58) (.val (.bool false))⟩] [] [0, 1, 9, 10, 59])
(.cond (.tmp 59)
(.skip)
(.ext 4)))
(.blk 5 (.reg [⟨some 60, none, .mv (.tmp 10)⟩,
⟨some 61, none, .bin .sub (.tmp 60) (.val (.int .i64 1))⟩,
⟨some 10, none, .mv (.tmp 61)⟩] [] [0, 1, 9, 10])))))
(.seq
(.seq
(.reg [⟨some 62, none, .mv (.tmp 9)⟩,
⟨some 63, none, .mv (.tmp 10)⟩,
⟨some 64, none, .bin .gtr (.tmp 62) (.tmp 63)⟩] [] [0, 1, 9, 10, 64])
(.cond (.tmp 64)
(.ext 0)
(.skip)))
(.seq
(.reg [⟨some 65, none, .mv (.tmp 0)⟩,
⟨some 66, none, .mv (.tmp 9)⟩,
⟨some 67, none, .mv (.tmp 0)⟩,
⟨some 68, none, .mv (.tmp 10)⟩,
⟨some 69, none, .mv (.tmp 0)⟩,
⟨some 70, none, .mv (.tmp 10)⟩,
⟨some 71, none, .iaS 1 (.tmp 69) (.tmp 70)⟩,
⟨some 72, none, .ld none (.tmp 71)⟩,
⟨some 73, none, .mv (.tmp 0)⟩,
⟨some 74, none, .mv (.tmp 9)⟩,
⟨some 75, none, .iaS 1 (.tmp 73) (.tmp 74)⟩,
⟨some 76, none, .ld none (.tmp 75)⟩,
⟨some 77, none, .iaS 1 (.tmp 65) (.tmp 66)⟩,
⟨none, none, .st 1 (.tmp 77) (.tmp 72)⟩,
⟨some 78, none, .iaS 1 (.tmp 67) (.tmp 68)⟩,
⟨none, none, .st 1 (.tmp 78) (.tmp 76)⟩] [] [0, 1, 9, 10])
(.seq
(.reg [⟨some 79, none, .mv (.tmp 9)⟩,
⟨some 80, none, .bin .add (.tmp 79) (.val (.int .i64 1))⟩,
⟨some 9, none, .mv (.tmp 80)⟩] [] [0, 1, 9, 10])
(.reg [⟨some 81, none, .mv (.tmp 10)⟩,
⟨some 82, none, .bin .sub (.tmp 81) (.val (.int .i64 1))⟩,
⟨some 10, none, .mv (.tmp 82)⟩] [] [0, 1, 9, 10])))))))))
(.seq
(.reg [⟨some 83, none, .mv (.tmp 9)⟩,
⟨some 8, none, .mv (.tmp 83)⟩] [] [8])
(.ret)))))⟩
theorem pf192_ok : fnOk Tryz.prog 192 pf192 = true := by kernel_rfl

/-- slices.partitionOrdered[int] -/
def pf193 : PFn := ⟨168, 4, [.tmp 8, .tmp 9], .seq
(.reg [⟨some 8, none, .mv (.val (.int .i64 0))⟩,
⟨some 9, none, .mv (.val (.bool false))⟩] [] [0, 1, 2, 3])
(.seq
(.reg [⟨some 12, none, .mv (.tmp 0)⟩,
⟨some 13, none, .mv (.tmp 1)⟩,
⟨some 14, none, .mv (.tmp 0)⟩,
⟨some 15, none, .mv (.tmp 3)⟩,
⟨some 16, none, .mv (.tmp 0)⟩,
⟨some 17, none, .mv (.tmp 3)⟩,
⟨some 18, none, .iaS 1 (.tmp 16) (.tmp 17)⟩,
⟨some 19, none, .ld none (.tmp 18)⟩,
⟨some 20, none, .mv (.tmp 0)⟩,
⟨some 21, none, .mv (.tmp 1)⟩,
⟨some 22, none, .iaS 1 (.tmp 20) (.tmp 21)⟩,
⟨some 23, none, .ld none (.tmp 22)⟩,
⟨some 24, none, .iaS 1 (.tmp 12) (.tmp 13)⟩,
⟨none, none, .st 1 (.tmp 24) (.tmp 19)⟩,
⟨some 25, none, .iaS 1 (.tmp 14) (.tmp 15)⟩,
⟨none, none, .st 1 (.tmp 25) (.tmp 23)⟩] [] [0, 1, 2])
(.seq
(.reg [⟨some 26, none, .mv (.tmp 1)⟩,
⟨some 27, none, .bin .add (.tmp 26) (.val (.int .i64 1))⟩,
⟨some 28, none, .mv (.tmp 2)⟩,
⟨some 29, none, .bin .sub (.tmp 28) (.val (.int .i64 1))⟩,
⟨some 10, none, .mv (.tmp 27)⟩,
⟨some 11, none, .mv (.tmp 29)⟩] [] [0, 1, 10, 11])
(.seq
(.blk 0 (.loop (.seq
(.seq
(.reg [⟨some 30, none, .mv (.tmp 10)⟩,
⟨some 31, none, .mv (.tmp 11)⟩,
⟨some 32, none, .bin .leq (.tmp 30) (.tmp 31)⟩,
⟨some 33, none, .mv (.tmp 32)⟩,
⟨some 34, (some (33, true)), .mv (.tmp 0)⟩,
⟨some 35, (some (33, true)), .mv (.tmp 10)⟩,
⟨some 36, (some (33, true)), .iaS 1 (.tmp 34) (.tmp 35)⟩,
⟨some 37, (some (33, true)), .ld none (.tmp 36)⟩,
⟨some 38, (some (33, true)), .mv (.tmp 0)⟩,
⟨some 39, (some (33, true)), .mv (.tmp 1)⟩,
⟨some 40, (some (33, true)), .iaS 1 (.tmp 38) (.tmp 39)⟩,
⟨some 41, (some (33, true)), .ld none (.tmp 40)⟩,
⟨some 42, (some (33, true)), .call 191 .pure [(.tmp 37), (.tmp 41)]⟩,
⟨some 43, none, .pick (.tmp 33) (.tmp 42) (.val (.bool false))⟩] [] [0, 1, 10, 11, 43])
(.cond (.tmp 43)
(.skip)
(.ext 0)))
(.blk 1 (.reg [⟨some 44, none, .mv (.tmp 10)⟩,
⟨some 45, none, .bin .add (.tmp 44) (.val (.int .i64 1))⟩,
⟨some 10, none, .mv (.tmp 45)⟩] [] [0, 1, 10, 11])))))
(.seq
(.blk 2 (.loop (.seq
(.seq
(.reg [⟨some 46, none, .mv (.tmp 10)⟩,
⟨some 47, none, .mv (.tmp 11)⟩,
⟨some 48, none, .bin .leq (.tmp 46) (.tmp 47)⟩,
⟨some 49, none, .mv (.tmp 48)⟩,
⟨some 50, (some (49, true)), .mv (.tmp 0)⟩,
⟨some 51, (some (49, true)), .mv (.tmp 11)⟩,
⟨some 52, (some (49, true)), .iaS 1 (.tmp 50) (.tmp 51)⟩,
⟨some 53, (some (49, true)), .ld none (.tmp 52)⟩,
⟨some 54, (some (49, true)), .mv (.tmp 0)⟩,
⟨some 55, (some (49, true)), .mv (.tmp 1)⟩,
⟨some 56, (some (49, true)), .iaS 1 (.tmp 54) (.tmp 55)⟩,
⟨some 57, (some (49, true)), .ld none (.tmp 56)⟩,
⟨some 58, (some (49, true)), .call 191 .pure [(.tmp 53), (.tmp 57)]⟩,
⟨some 59, (some (49, true)), .un .not (.tmp 58)⟩,
⟨some 60, none, .pick (.tmp 49) (.tmp 59) (.val (.bool false))⟩] [] [0, 1, 10, 11, 60])
(.cond (.tmp 60)
(.skip)
(.ext 2)))
(.blk 3 (.reg [⟨some 61, none, .mv (.tmp 11)⟩,
⟨some 62, none, .bin .sub (.tmp 61) (.val (.int .i64 1))⟩,
⟨some 11, none, .mv (.tmp 62)⟩] [] [0, 1, 10, 11])))))
(.seq
(.seq
(.reg [⟨some 63, none, .mv (.tmp 10)⟩,
⟨some 64, none, .mv (.tmp 11)⟩,
⟨some 65, none, .bin .gtr (.tmp 63) (.tmp 64)⟩] [] [0, 1, 10, 11, 65])
(.cond (.tmp 65)
(.seq
(.reg [⟨some 66, none, .mv (.tmp 0)⟩,
⟨some 67, none, .mv (.tmp 11)⟩,
⟨some 68, none, .mv (.tmp 0)⟩,
⟨some 69, none, .mv (.tmp 1)⟩,
⟨some 70, none, .mv (.tmp 0)⟩,
⟨some 71, none, .mv (.tmp 1)⟩,
⟨some 72, none, .iaS 1 (.tmp 70) (.tmp 71)⟩,
⟨some 73, none, .ld none (.tmp 72)⟩,
⟨some 74, none, .mv (.tmp 0)⟩,
⟨some 75, none, .mv (.tmp 11)⟩,
⟨some 76, none, .iaS 1 (.tmp 74) (.tmp 75)⟩,
⟨some 77, none, .ld none (.tmp 76)⟩,
⟨some 78, none, .iaS 1 (.tmp 66) (.tmp 67)⟩,
⟨none, none, .st 1 (.tmp 78) (.tmp 73)⟩,
⟨some 79, none, .iaS 1 (.tmp 68) (.tmp 69)⟩,
⟨none, none, .st 1 (.tmp 79) (.tmp 77)⟩] [] [11])
(.seq
(.reg [⟨some 80, none, .mv (.tmp 11)⟩,
⟨some 8, none, .mv (.tmp 80)⟩,
⟨some 9, none, .mv (.val (.bool true))⟩] [] [8, 9])
(.ret)))
(.skip)))
(.seq
(.reg [⟨some 81, none, .mv (.tmp 0)⟩,
⟨some 82, none, .mv (.tmp 10)⟩,
⟨some 83, none, .mv (.tmp 0)⟩,
⟨some 84, none, .mv (.tmp 11)⟩,
⟨some 85, none, .mv (.tmp 0)⟩,
⟨some 86, none, .mv (.tmp 11)⟩,
⟨some 87, none, .iaS 1 (.tmp 85) (.tmp 86)⟩,
⟨some 88, none, .ld none (.tmp 87)⟩,
⟨some 89, none, .mv (.tmp 0)⟩,
⟨some 90, none, .mv (.tmp 10)⟩,
⟨some 91, none, .iaS 1 (.tmp 89) (.tmp 90)⟩,
⟨some 92, none, .ld none (.tmp 91)⟩,
⟨some 93, none, .iaS 1 (.tmp 81) (.tmp 82)⟩,
⟨none, none, .st 1 (.tmp 93) (.tmp 88)⟩,
⟨some 94, none, .iaS 1 (.tmp 83) (.tmp 84)⟩,
⟨none, none, .st 1 (.tmp 94) (.tmp 92)⟩] [] [0, 1, 10, 11])
(.seq
(.reg [⟨some 95, none, .mv (.tmp 10)⟩,
⟨some 96, none, .bin .add (.tmp 95) (.val (.int .i64 1))⟩,
⟨some 10, none, .mv (.tmp 96)⟩] [] [0, 1, 10, 11])
(.seq
(.reg [⟨some 97, none, .mv (.tmp 11)⟩,
⟨some 98, none, .bin .sub (.tmp 97) (.val (.int .i64 1))⟩,
⟨some 11, none, .mv (.tmp 98)⟩] [] [0, 1, 10, 11])
(.seq
(.blk 4 (.loop (.blk 5 (.seq
(.blk 6 (.loop (.seq
(.seq
(.reg [⟨some 99, none, .mv (.tmp 10)⟩,
⟨some 100, none, .mv (.tmp 11)⟩,
⟨some 101, none, .bin .leq (.tmp 99) (.tmp 100)⟩,
⟨some 102, none, .mv (.tmp 101)⟩,
⟨some 103, (some (102, true)), .mv (.tmp 0)⟩,
⟨some 104, (some (102, true)), .mv (.tmp 10)⟩,
⟨some 105, (some (102, true)), .iaS 1 (.tmp 103) (.tmp 104)⟩,
⟨some 106, (some (102, true)), .ld none (.tmp 105)⟩,
⟨some 107, (some (102, true)), .mv (.tmp 0)⟩,
⟨some 108, (some (102, true)), .mv (.tmp 1)⟩,
⟨some 109, (some (102, true)), .iaS 1 (.tmp 107) (.tmp 108)⟩,
⟨some 110, (some (102, true)), .ld none (.tmp 109)⟩,
⟨some 111, (some (102, true)), .call 191 .pure [(.tmp 106), (.tmp 110)]⟩,
⟨some 112, none, .pick (.tmp 102) (.tmp 111) (.val (.bool false))⟩] [] [0, 1, 10, 11, 112])
(.cond (.tmp 112)
(.skip)
(.ext 6)))
(.blk 7 (.reg [⟨some 113, none, .mv (.tmp 10)⟩,
⟨some 114, none, .bin .add (.tmp 113) (.val (.int .i64 1))⟩,
⟨some 10, none, .mv (.tmp 114)⟩] [] [0, 1, 10, 11])))))
(.seq
(.blk 8 (.loop (.seq
(.seq
(.reg [⟨some 115, none, .mv (.tmp 10)⟩,
⟨some 116, none, .mv (.tmp 11)⟩,
⟨some 117, none, .bin .leq (.tmp 115) (.tmp 116)⟩,
⟨some 118, none, .mv (.tmp 117)⟩,
⟨some 119, (some (118, true)), .mv (.tmp 0)⟩,
⟨some 120, (some (118, true)), .mv (.tmp 11)⟩,
⟨some 121, (some (118, true)), .iaS 1 (.tmp 119) (.tmp 120)⟩,
⟨some 122, (some (118, true)), .ld none (.tmp 121)⟩,
⟨some 123, (some (118, true)), .mv (.tmp 0)⟩,
⟨some 124, (some (118, true)), .mv (.tmp 1)⟩,
⟨some 125, (some (118, true)), .iaS 1 (.tmp 123) (.tmp 124)⟩,
⟨some 126, (some (118, true)), .ld none (.tmp 125)⟩,
⟨some 127, (some (118, true)), .call 191 .pure [(.tmp 122), (.tmp 126)]⟩,
⟨some 128, (some (118, true)), .un .not (.tmp 127)⟩,
⟨some 129, none, .pick (.tmp 118) (.tmp 128) (.val (.bool false))⟩] [] [0, 1, 10, 11, 129])
(.cond (.tmp 129)
(.skip)
(.ext 8)))
(.blk 9 (.reg [⟨some 130, none, .mv (.tmp 11)⟩,
⟨some 131, none, .bin .sub (.tmp 130) (.val (.int .i64 1))⟩,
⟨some 11, none, .mv (.tmp 131)⟩] [] [0, 1, 10, 11])))))
(.seq
(.seq
(.reg [⟨some 132, none, .mv (.tmp 10)⟩,
⟨some 133, none, .mv (.tmp 11)⟩,
⟨some 134, none, .bin .gtr (.tmp 132) (.tmp 133)⟩] [] [0, 1, 10, 11, 134])
(.cond (.tmp 134)
(.ext 4)
(.skip)))
(.seq
(.reg [⟨some 135, none, .mv (.tmp 0)⟩,
⟨some 136, none, .mv (.tmp 10)⟩,
⟨some 137, none, .mv (.tmp 0)⟩,
⟨some 138, none, .mv (.tmp 11)⟩,
⟨some 139, none, .mv (.tmp 0)⟩,
⟨some 140, none, .mv (.tmp 11)⟩,
⟨some 141, none, .iaS 1 (.tmp 139) (.tmp 140)⟩,
⟨some 142, none, .ld none (.tmp 141)⟩,
⟨some 143, none, .mv (.tmp 0)⟩,
⟨some 144, none, .mv (.tmp 10)⟩,
⟨some 145, none, .iaS 1 (.tmp 143) (.tmp 144)⟩,
⟨some 146, none, .ld none (.tmp 145)⟩,
⟨some 147, none, .iaS 1 (.tmp 135) (.tmp 136)⟩,
⟨none, none, .st 1 (.tmp 147) (.tmp 142)⟩,
⟨some 148, none, .iaS 1 (.tmp 137) (.tmp 138)⟩,
⟨none, none, .st 1 (.tmp 148) (.tmp 146)⟩] [] [0, 1, 10, 11])
(.seq
(.reg [⟨some 149, none, .mv (.tmp 10)⟩,
⟨some 150, none, .bin .add (.tmp 149) (.val (.int .i64 1))⟩,
⟨some 10, none, .mv (.tmp 150)⟩] [] [0, 1, 10, 11])
(.reg [⟨some 151, none, .mv (.tmp 11)⟩,
⟨some 152, none, .bin .sub (.tmp 151) (.val (.int .i64 1))⟩,
⟨some 11, none, .mv (.tmp 152)⟩] [] [0, 1, 10, 11])))))))))
(.seq
(.reg [⟨some 153, none, .mv (.tmp 0)⟩,
⟨some 154, none, .mv (.tmp 11)⟩,
⟨some 155, none, .mv (.tmp 0)⟩,
⟨some 156, none, .mv (.tmp 1)⟩,
⟨some 157, none, .mv (.tmp 0)⟩,
⟨some 158, none, .mv (.tmp 1)⟩,
⟨some 159, none, .iaS 1 (.tmp 157) (.tmp 158)⟩,
⟨some 160, none, .ld none (.tmp 159)⟩,
⟨some 161, none, .mv (.tmp 0)⟩,
⟨some 162, none, .mv (.tmp 11)⟩,
⟨some 163, none, .iaS 1 (.tmp 161) (.tmp 162)⟩,
⟨some 164, none, .ld none (.tmp 163)⟩,
⟨some 165, none, .iaS 1 (.tmp 153) (.tmp 154)⟩,
⟨none, none, .st 1 (.tmp 165) (.tmp 160)⟩,
⟨some 166, none, .iaS 1 (.tmp 155) (.tmp 156)⟩,
⟨none, none, .st 1 (.tmp 166) (.tmp 164)⟩] [] [11])
(.seq
(.reg [⟨some 167, none, .mv (.tmp 11)⟩,
⟨some 8, none, .mv (.tmp 167)⟩,
⟨some 9, none, .mv (.val (.bool false))⟩] [] [8, 9])
(.ret))))))))))))⟩
theorem pf193_ok : fnOk Tryz.prog 193 pf193 = true := by kernel_rfl

/-- hinterland/block.beyond -/
def pf194 : PFn := ⟨30, 2, [.tmp 4], .seq
(.reg [⟨some 4, none, .mv (.val (.list .nil 1 []))⟩] [] [0, 1])
(.seq
(.reg [⟨some 5, none, .nacc 3 1⟩] [] [0, 1, 5])
(.seq
(.seq
(.reg [⟨some 8, none, .mv (.tmp 1)⟩,
⟨some 9, none, .len (.tmp 8)⟩,
⟨some 10, none, .mv (.val (.int .i64 0))⟩] [] [0, 5, 8, 9, 10])
(.blk 0 (.loop (.trim (.seq
(.reg [⟨some 11, none, .bin .lss (.tmp 10) (.tmp 9)⟩] [] [0, 5, 8, 9, 10, 11])
(.seq
(.cond (.tmp 11)
(.skip)
(.ext 0))
(.seq
(.blk 1 (.seq
(.reg [⟨some 12, none, .iaS 3 (.tmp 8) (.tmp 10)⟩,
⟨some 13, none, .ld (some 3) (.tmp 12)⟩,
⟨some 7, none, .zer 54 (.agg [(.int .i64 0), (.int .i64 0), (.int .i64 0)])⟩,
⟨none, none, .st 3 (.tmp 7) (.tmp 13)⟩] [] [0, 5, 7, 8, 9, 10])
(.reg [⟨some 14, none, .mv (.tmp 5)⟩,
⟨some 15, none, .mv (.tmp 0)⟩,
⟨some 16, none, .faddr 0 (.tmp 7)⟩,
⟨some 17, none, .ld none (.tmp 16)⟩,
⟨some 18, none, .faddr 1 (.tmp 7)⟩,
⟨some 19, none, .ld none (.tmp 18)⟩,
⟨some 20, none, .call 204 .pure [(.tmp 17), (.tmp 19)]⟩,
⟨some 21, none, .iaS 1 (.tmp 15) (.tmp 20)⟩,
⟨some 22, none, .ld none (.tmp 21)⟩,
⟨some 23, none, .bsl 1 1 [(.int .i64 0)] [(0, 1, (.tmp 22))]⟩,
⟨some 24, none, .app 3 1 8 (.tmp 14) (.tmp 23)⟩,
⟨some 5, none, .mv (.tmp 24)⟩] [] [0, 5, 8, 9, 10])))
(.reg [⟨some 25, none, .bin .add (.tmp 10) (.val (.int .i64 1))⟩,
⟨some 10, none, .mv (.tmp 25)⟩] [] [0, 5, 8, 9, 10]))))))))
(.seq
(.reg [⟨some 26, none, .mv (.tmp 5)⟩,
⟨some 27, none, .call 146 .opn [(.tmp 26)]⟩] [] [5])
(.seq
(.reg [⟨some 28, none, .mv (.tmp 5)⟩,
⟨some 29, none, .call 147 .opn [(.tmp 28)]⟩,
⟨some 4, none, .mv (.tmp 29)⟩] [] [4])
(.ret)))))⟩
theorem pf194_ok : fnOk Tryz.prog 194 pf194 = true := by kernel_rfl

/-- hinterland/block.leaves -/
def pf195 : PFn := ⟨55, 5, [.tmp 10], .seq
(.reg [⟨some 10, none, .mv (.val (.bool false))⟩] [] [0, 1, 2, 3, 4])
(.seq
(.reg [⟨some 13, none, .mv (.tmp 0)⟩,
⟨some 14, none, .mv (.tmp 2)⟩,
⟨some 15, none, .iaS 4 (.tmp 13) (.tmp 14)⟩,
⟨some 16, none, .ld (some 4) (.tmp 15)⟩,
⟨some 17, none, .mv (.tmp 0)⟩,
⟨some 18, none, .mv (.tmp 3)⟩,
⟨some 19, none, .iaS 4 (.tmp 17) (.tmp 18)⟩,
⟨some 20, none, .ld (some 4) (.tmp 19)⟩,
⟨some 11, none, .zer 75 (.agg [(.int .i64 0), (.int .i64 0), (.int .i64 0), (.int .i64 0)])⟩,
⟨some 12, none, .zer 75 (.agg [(.int .i64 0), (.int .i64 0), (.int .i64 0), (.int .i64 0)])⟩,
⟨none, none, .st 4 (.tmp 11) (.tmp 16)⟩,
⟨none, none, .st 4 (.tmp 12) (.tmp 20)⟩] [(3, 0), (7, 0), (7, 10), (7, 11)] [1, 4, 11, 12])
(.seq
(.reg [⟨some 21, none, .faddr 3 (.tmp 12)⟩,
⟨some 22, none, .ld none (.tmp 21)⟩,
⟨some 23, none, .bin .eql (.tmp 22) (.val (.int .i64 2))⟩,
⟨some 24, none, .mv (.tmp 23)⟩,
⟨some 25, (some (24, false)), .faddr 3 (.tmp 12)⟩,
⟨some 26, (some (24, false)), .ld none (.tmp 25)⟩,
⟨some 27, (some (24, false)), .bin .eql (.tmp 26) (.val (.int .i64 3))⟩,
⟨some 28, none, .pick (.tmp 24) (.val (.bool true)) (.tmp 27)⟩,
⟨some 29, none, .mv (.tmp 28)⟩,
⟨some 30, (some (29, true)), .mv (.tmp 1)⟩,
⟨some 31, (some (29, true)), .faddr 0 (.tmp 12)⟩,
⟨some 32, (some (29, true)), .ld none (.tmp 31)⟩,
⟨some 33, (some (29, true)), .faddr 1 (.tmp 12)⟩,
⟨some 34, (some (29, true)), .ld none (.tmp 33)⟩,
⟨some 35, (some (29, true)), .call 204 .pure [(.tmp 32), (.tmp 34)]⟩,
⟨some 36, (some (29, true)), .iaS 1 (.tmp 30) (.tmp 35)⟩,
⟨some 37, (some (29, true)), .ld none (.tmp 36)⟩,
⟨some 38, (some (29, true)), .mv (.tmp 4)⟩,
⟨some 39, (some (29, true)), .bin .eql (.tmp 37) (.tmp 38)⟩,
⟨some 40, none, .pick (.tmp 29) (.tmp 39) (.val (.bool false))⟩,
⟨some 41, none, .mv (.tmp 40)⟩,
⟨some 42, (some (41, true)), .faddr 0 (.tmp 12)⟩,
⟨some 43, (some (41, true)), .ld none (.tmp 42)⟩,
⟨some 44, (some (41, true)), .faddr 0 (.tmp 11)⟩,
⟨some 45, (some (41, true)), .ld none (.tmp 44)⟩,
⟨some 46, (some (41, true)), .bin .neq (.tmp 43) (.tmp 45)⟩,
⟨some 47, (some (41, true)), .mv (.tmp 46)⟩,
⟨some 48, (some (47, false)), .faddr 1 (.tmp 12)⟩,
⟨some 49, (some (47, false)), .ld none (.tmp 48)⟩,
⟨some 50, (some (47, false)), .faddr 1 (.tmp 11)⟩,
⟨some 51, (some (47, false)), .ld none (.tmp 50)⟩,
⟨some 52, (some (47, false)), .bin .neq (.tmp 49) (.tmp 51)⟩,
⟨some 53, (some (41, true)), .pick (.tmp 47) (.val (.bool true)) (.tmp 52)⟩,
⟨some 54, none, .pick (.tmp 41) (.tmp 53) (.val (.bool false))⟩,
⟨some 10, none, .mv (.tmp 54)⟩] [] [10])
(.ret)))⟩
theorem pf195_ok : fnOk Tryz.prog 195 pf195 = true := by kernel_rfl

/-- slices.siftDownCmpFunc[hinterland/api.Spot] -/
def pf197 : PFn := ⟨82, 5, [], .seq
(.reg [⟨some 12, none, .mv (.tmp 1)⟩,
⟨some 10, none, .mv (.tmp 12)⟩] [] [0, 2, 3, 4, 10])
(.blk 0 (.loop (.blk 1 (.seq
(.reg [⟨some 13, none, .mv (.tmp 10)⟩,
⟨some 14, none, .bin .mul (.val (.int .i64 2)) (.tmp 13)⟩,
⟨some 15, none, .bin .add (.tmp 14) (.val (.int .i64 1))⟩,
⟨some 11, none, .mv (.tmp 15)⟩] [] [0, 2, 3, 4, 10, 11])
(.seq
(.seq
(.reg [⟨some 16, none, .mv (.tmp 11)⟩,
⟨some 17, none, .mv (.tmp 2)⟩,
⟨some 18, none, .bin .geq (.tmp 16) (.tmp 17)⟩] [] [0, 2, 3, 4, 10, 11, 18])
(.cond (.tmp 18)
(.ext 0)
(.skip)))
(.seq
(.seq
(.reg [⟨some 19, none, .mv (.tmp 11)⟩,
⟨some 20, none, .bin .add (.tmp 19) (.val (.int .i64 1))⟩,
⟨some 21, none, .mv (.tmp 2)⟩,
⟨some 22, none, .bin .lss (.tmp 20) (.tmp 21)⟩,
⟨some 23, none, .mv (.tmp 22)⟩,
⟨some 24, (some (23, true)), .mv (.tmp 4)⟩,
⟨some 25, (some (23, true)), .mv (.tmp 0)⟩,
⟨some 26, (some (23, true)), .mv (.tmp 3)⟩,
⟨some 27, (some (23, true)), .mv (.tmp 11)⟩,
⟨some 28, (some (23, true)), .bin .add (.tmp 26) (.tmp 27)⟩,
⟨some 29, (some (23, true)), .iaS 3 (.tmp 25) (.tmp 28)⟩,
⟨some 30, (some (23, true)), .ld (some 3) (.tmp 29)⟩,
⟨some 31, (some (23, true)), .mv (.tmp 0)⟩,
⟨some 32, (some (23, true)), .mv (.tmp 3)⟩,
⟨some 33, (some (23, true)), .mv (.tmp 11)⟩,
⟨some 34, (some (23, true)), .bin .add (.tmp 32) (.tmp 33)⟩,
⟨some 35, (some (23, true)), .bin .add (.tmp 34) (.val (.int .i64 1))⟩,
⟨some 36, (some (23, true)), .iaS 3 (.tmp 31) (.tmp 35)⟩,
⟨some 37, (some (23, true)), .ld (some 3) (.tmp 36)⟩,
⟨some 38, (some (23, true)), .callv (.tmp 24) .pure [(.tmp 30), (.tmp 37)]⟩,
⟨some 39, (some (23, true)), .bin .lss (.tmp 38) (.val (.int .i64 0))⟩,
⟨some 40, none, .pick (.tmp 23) (.tmp 39) (.val (.bool false))⟩] [] [0, 2, 3, 4, 10, 11, 40])
(.cond (.tmp 40)
(.reg [⟨some 41, none, .mv (.tmp 11)⟩,
⟨some 42, none, .bin .add (.tmp 41) (.val (.int .i64 1))⟩,
⟨some 11, none, .mv (.tmp 42)⟩] [] [0, 2, 3, 4, 10, 11])
(.skip)))
(.seq
(.seq
(.reg [⟨some 43, none, .mv (.tmp 4)⟩,
⟨some 44, none, .mv (.tmp 0)⟩,
⟨some 45, none, .mv (.tmp 3)⟩,
⟨some 46, none, .mv (.tmp 10)⟩,
⟨some 47, none, .bin .add (.tmp 45) (.tmp 46)⟩,
⟨some 48, none, .iaS 3 (.tmp 44) (.tmp 47)⟩,
⟨some 49, none, .ld (some 3) (.tmp 48)⟩,
⟨some 50, none, .mv (.tmp 0)⟩,
⟨some 51, none, .mv (.tmp 3)⟩,
⟨some 52, none, .mv (.tmp 11)⟩,
⟨some 53, none, .bin .add (.tmp 51) (.tmp 52)⟩,
⟨some 54, none, .iaS 3 (.tmp 50) (.tmp 53)⟩,
⟨some 55, none, .ld (some 3) (.tmp 54)⟩,
⟨some 56, none, .callv (.tmp 43) .pure [(.tmp 49), (.tmp 55)]⟩,
⟨some 57, none, .bin .lss (.tmp 56) (.val (.int .i64 0))⟩,
⟨some 58, none, .un .not (.tmp 57)⟩] [] [0, 2, 3, 4, 10, 11, 58])
(.cond (.tmp 58)
(.ret)
(.skip)))
(.seq
(.reg [⟨some 59, none, .mv (.tmp 0)⟩,
⟨some 60, none, .mv (.tmp 3)⟩,
⟨some 61, none, .mv (.tmp 10)⟩,
⟨some 62, none, .bin .add (.tmp 60) (.tmp 61)⟩,
⟨some 63, none, .mv (.tmp 0)⟩,
⟨some 64, none, .mv (.tmp 3)⟩,
⟨some 65, none, .mv (.tmp 11)⟩,
⟨some 66, none, .bin .add (.tmp 64) (.tmp 65)⟩,
⟨some 67, none, .mv (.tmp 0)⟩,
⟨some 68, none, .mv (.tmp 3)⟩,
⟨some 69, none, .mv (.tmp 11)⟩,
⟨some 70, none, .bin .add (.tmp 68) (.tmp 69)⟩,
⟨some 71, none, .iaS 3 (.tmp 67) (.tmp 70)⟩,
⟨some 72, none, .ld (some 3) (.tmp 71)⟩,
⟨some 73, none, .mv (.tmp 0)⟩,
⟨some 74, none, .mv (.tmp 3)⟩,
⟨some 75, none, .mv (.tmp 10)⟩,
⟨some 76, none, .bin .add (.tmp 74) (.tmp 75)⟩,
⟨some 77, none, .iaS 3 (.tmp 73) (.tmp 76)⟩,
⟨some 78, none, .ld (some 3) (.tmp 77)⟩,
⟨some 79, none, .iaS 3 (.tmp 59) (.tmp 62)⟩,
⟨none, none, .st 3 (.tmp 79) (.tmp 72)⟩,
⟨some 80, none, .iaS 3 (.tmp 63) (.tmp 66)⟩,
⟨none, none, .st 3 (.tmp 80) (.tmp 78)⟩] [] [0, 2, 3, 4, 11])
(.reg [⟨some 81, none, .mv (.tmp 11)⟩,
⟨some 10, none, .mv (.tmp 81)⟩] [] [0, 2, 3, 4, 10])))))))))⟩
theorem pf197_ok : fnOk Tryz.prog 197 pf197 = true := by kernel_rfl

/-- slices.nextPowerOfTwo -/
def pf198 : PFn := ⟨7, 1, [.tmp 2], .seq
(.reg [⟨some 2, none, .mv (.val (.int .u64 0))⟩] [] [0])
(.seq
(.reg [⟨some 3, none, .mv (.tmp 0)⟩,
⟨some 4, none, .conv .u64 (.tmp 3)⟩,
⟨some 5, none, .call 160 .pure [(.tmp 4)]⟩,
⟨some 6, none, .bin .shl (.val (.int .u64 1)) (.tmp 5)⟩,
⟨some 2, none, .mv (.tmp 6)⟩] [] [2])
(.ret))⟩
theorem pf198_ok : fnOk Tryz.prog 198 pf198 = true := by kernel_rfl

/-- (*slices.xorshift).Next -/
def pf199 : PFn := ⟨33, 1, [.tmp 2], .seq
(.reg [⟨some 2, none, .mv (.val (.int .u64 0))⟩] [] [0])
(.seq
(.reg [⟨some 3, none, .mv (.tmp 0)⟩,
⟨some 4, none, .nck (.tmp 3)⟩,
⟨some 5, none, .ld none (.tmp 4)⟩,
⟨some 6, none, .mv (.tmp 0)⟩,
⟨some 7, none, .nck (.tmp 6)⟩,
⟨some 8, none, .ld none (.tmp 7)⟩,
⟨some 9, none, .bin .shl (.tmp 8) (.val (.int .u64 13))⟩,
⟨some 10, none, .bin .xor (.tmp 5) (.tmp 9)⟩,
⟨some 11, none, .nck (.tmp 3)⟩,
⟨none, none, .st 1 (.tmp 11) (.tmp 10)⟩] [] [0])
(.seq
(.reg [⟨some 12, none, .mv (.tmp 0)⟩,
⟨some 13, none, .nck (.tmp 12)⟩,
⟨some 14, none, .ld none (.tmp 13)⟩,
⟨some 15, none, .mv (.tmp 0)⟩,
⟨some 16, none, .nck (.tmp 15)⟩,
⟨some 17, none, .ld none (.tmp 16)⟩,
⟨some 18, none, .bin .shr (.tmp 17) (.val (.int .u64 7))⟩,
⟨some 19, none, .bin .xor (.tmp 14) (.tmp 18)⟩,
⟨some 20, none, .nck (.tmp 12)⟩,
⟨none, none, .st 1 (.tmp 20) (.tmp 19)⟩] [] [0])
(.seq
(.reg [⟨some 21, none, .mv (.tmp 0)⟩,
⟨some 22, none, .nck (.tmp 21)⟩,
⟨some 23, none, .ld none (.tmp 22)⟩,
⟨some 24, none, .mv (.tmp 0)⟩,
⟨some 25, none, .nck (.tmp 24)⟩,
⟨some 26, none, .ld none (.tmp 25)⟩,
⟨some 27, none, .bin .shl (.tmp 26) (.val (.int .u64 17))⟩,
⟨some 28, none, .bin .xor (.tmp 23) (.tmp 27)⟩,
⟨some 29, none, .nck (.tmp 21)⟩,
⟨none, none, .st 1 (.tmp 29) (.tmp 28)⟩] [] [0])
(.seq
(.reg [⟨some 30, none, .mv (.tmp 0)⟩,
⟨some 31, none, .nck (.tmp 30)⟩,
⟨some 32, none, .ld none (.tmp 31)⟩,
⟨some 2, none, .mv (.tmp 32)⟩] [] [2])
(.ret)))))⟩
theorem pf199_ok : fnOk Tryz.prog 199 pf199 = true := by kernel_rfl

/-- slices.medianAdjacentCmpFunc[hinterland/api.Spot] -/
def pf200 : PFn := ⟨18, 4, [.tmp 8], .seq
(.reg [⟨some 8, none, .mv (.val (.int .i64 0))⟩] [] [0, 1, 2, 3])
(.seq
(.reg [⟨some 9, none, .mv (.tmp 0)⟩,
⟨some 10, none, .mv (.tmp 1)⟩,
⟨some 11, none, .bin .sub (.tmp 10) (.val (.int .i64 1))⟩,
⟨some 12, none, .mv (.tmp 1)⟩,
⟨some 13, none, .mv (.tmp 1)⟩,
⟨some 14, none, .bin .add (.tmp 13) (.val (.int .i64 1))⟩,
⟨some 15, none, .mv (.tmp 2)⟩,
⟨some 16, none, .mv (.tmp 3)⟩,
⟨some 17, none, .call 201 .pure [(.tmp 9), (.tmp 11), (.tmp 12), (.tmp 14), (.tmp 15), (.tmp 16)]⟩,
⟨some 8, none, .mv (.tmp 17)⟩] [] [8])
(.ret))⟩
theorem pf200_ok : fnOk Tryz.prog 200 pf200 = true := by kernel_rfl

/-- slices.medianCmpFunc[hinterland/api.Spot] -/
def pf201 : PFn := ⟨41, 6, [.tmp 12], .seq
(.reg [⟨some 12, none, .mv (.val (.int .i64 0))⟩] [] [0, 1, 2, 3, 4, 5])
(.seq
(.reg [⟨some 14, none, .mv (.tmp 0)⟩,
⟨some 15, none, .mv (.tmp 1)⟩,
⟨some 16, none, .mv (.tmp 2)⟩,
⟨some 17, none, .mv (.tmp 4)⟩,
⟨some 18, none, .mv (.tmp 5)⟩,
⟨some 19, none, .call 209 .pure [(.tmp 14), (.tmp 15), (.tmp 16), (.tmp 17), (.tmp 18)]⟩,
⟨some 13, none, .mv (.tmp 19)⟩,
⟨some 20, none, .ext 0 (.tmp 13)⟩,
⟨some 21, none, .ext 1 (.tmp 13)⟩,
⟨some 1, none, .mv (.tmp 20)⟩,
⟨some 2, none, .mv (.tmp 21)⟩] [] [0, 1, 2, 3, 4, 5])
(.seq
(.reg [⟨some 23, none, .mv (.tmp 0)⟩,
⟨some 24, none, .mv (.tmp 2)⟩,
⟨some 25, none, .mv (.tmp 3)⟩,
⟨some 26, none, .mv (.tmp 4)⟩,
⟨some 27, none, .mv (.tmp 5)⟩,
⟨some 28, none, .call 209 .pure [(.tmp 23), (.tmp 24), (.tmp 25), (.tmp 26), (.tmp 27)]⟩,
⟨some 22, none, .mv (.tmp 28)⟩,
⟨some 29, none, .ext 0 (.tmp 22)⟩,
⟨some 30, none, .ext 1 (.tmp 22)⟩,
⟨some 2, none, .mv (.tmp 29)⟩,
⟨some 3, none, .mv (.tmp 30)⟩] [] [0, 1, 2, 4, 5])
(.seq
(.reg [⟨some 32, none, .mv (.tmp 0)⟩,
⟨some 33, none, .mv (.tmp 1)⟩,
⟨some 34, none, .mv (.tmp 2)⟩,
⟨some 35, none, .mv (.tmp 4)⟩,
⟨some 36, none, .mv (.tmp 5)⟩,
⟨some 37, none, .call 209 .pure [(.tmp 32), (.tmp 33), (.tmp 34), (.tmp 35), (.tmp 36)]⟩,
⟨some 31, none, .mv (.tmp 37)⟩,
⟨some 38, none, .ext 0 (.tmp 31)⟩,
⟨some 39, none, .ext 1 (.tmp 31)⟩,
⟨some 1, none, .mv (.tmp 38)⟩,
⟨some 2, none, .mv (.tmp 39)⟩] [] [2])
(.seq
(.reg [⟨some 40, none, .mv (.tmp 2)⟩,
⟨some 12, none, .mv (.tmp 40)⟩] [] [12])
(.ret)))))⟩
theorem pf201_ok : fnOk Tryz.prog 201 pf201 = true := by kernel_rfl

/-- hinterland/block.part -/
def pf202 : PFn := ⟨23, 2, [.tmp 4], .seq
(.reg [⟨some 4, none, .mv (.val (.bool false))⟩] [] [0, 1])
(.seq
(.reg [⟨some 5, none, .mv (.tmp 0)⟩,
⟨some 6, none, .bin .geq (.tmp 5) (.val (.int .i64 2))⟩,
⟨some 7, none, .mv (.tmp 6)⟩,
⟨some 8, (some (7, true)), .mv (.tmp 1)⟩,
⟨some 9, (some (7, true)), .bin .geq (.tmp 8) (.val (.int .i64 2))⟩,
⟨some 10, none, .pick (.tmp 7) (.tmp 9) (.val (.bool false))⟩,
⟨some 11, none, .mv (.tmp 10)⟩,
⟨some 12, (some (11, true)), .mv (.tmp 0)⟩,
⟨some 13, (some (11, true)), .mv (.tmp 1)⟩,
⟨some 14, (some (11, true)), .bin .sub (.tmp 12) (.tmp 13)⟩,
⟨some 15, (some (11, true)), .bin .eql (.tmp 14) (.val (.int .i64 2))⟩,
⟨some 16, (some (11, true)), .mv (.tmp 15)⟩,
⟨some 17, (some (16, false)), .mv (.tmp 1)⟩,
⟨some 18, (some (16, false)), .mv (.tmp 0)⟩,
⟨some 19, (some (16, false)), .bin .sub (.tmp 17) (.tmp 18)⟩,
⟨some 20, (some (16, false)), .bin .eql (.tmp 19) (.val (.int .i64 2))⟩,
⟨some 21, (some (11, true)), .pick (.tmp 16) (.val (.bool true)) (.tmp 20)⟩,
⟨some 22, none, .pick (.tmp 11) (.tmp 21) (.val (.bool false))⟩,
⟨some 4, none, .mv (.tmp 22)⟩] [] [4])
(.ret))⟩
theorem pf202_ok : fnOk Tryz.prog 202 pf202 = true := by kernel_rfl

/-- hinterland/block.join -/
def pf203 : PFn := ⟨20, 3, [], .seq
(.reg [⟨some 6, none, .mv (.tmp 0)⟩,
⟨some 7, none, .mv (.tmp 1)⟩,
⟨some 8, none, .call 184 .opn [(.tmp 6), (.tmp 7)]⟩,
⟨some 9, none, .mv (.tmp 0)⟩,
⟨some 10, none, .mv (.tmp 2)⟩,
⟨some 11, none, .call 184 .opn [(.tmp 9), (.tmp 10)]⟩,
⟨some 1, none, .mv (.tmp 8)⟩,
⟨some 2, none, .mv (.tmp 11)⟩] [] [0, 1, 2])
(.reg [⟨some 12, none, .mv (.tmp 0)⟩,
⟨some 13, none, .mv (.tmp 1)⟩,
⟨some 14, none, .mv (.tmp 2)⟩,
⟨some 15, none, .mx (.tmp 13) [(.tmp 14)]⟩,
⟨some 16, none, .mv (.tmp 1)⟩,
⟨some 17, none, .mv (.tmp 2)⟩,
⟨some 18, none, .mn (.tmp 16) [(.tmp 17)]⟩,
⟨some 19, none, .iaS 1 (.tmp 12) (.tmp 15)⟩,
⟨none, none, .st 1 (.tmp 19) (.tmp 18)⟩] [] [])⟩
theorem pf203_ok : fnOk Tryz.prog 203 pf203 = true := by kernel_rfl

/-- hinterland/block.number -/
def pf204 : PFn := ⟨9, 2, [.tmp 4], .seq
(.reg [⟨some 4, none, .mv (.val (.int .i64 0))⟩] [] [0, 1])
(.seq
(.reg [⟨some 5, none, .mv (.tmp 0)⟩,
⟨some 6, none, .bin .mul (.val (.int .i64 8)) (.tmp 5)⟩,
⟨some 7, none, .mv (.tmp 1)⟩,
⟨some 8, none, .bin .add (.tmp 6) (.tmp 7)⟩,
⟨some 4, none, .mv (.tmp 8)⟩] [] [4])
(.ret))⟩
theorem pf204_ok : fnOk Tryz.prog 204 pf204 = true := by kernel_rfl

/-- (hinterland/block.signals).stand -/
def pf205 : PFn := ⟨21, 4, [.tmp 8], .seq
(.reg [⟨some 8, none, .mv (.val (.bool false))⟩] [] [0, 1, 2, 3])
(.seq
(.reg [⟨some 12, none, .mv (.tmp 0)⟩,
⟨some 13, none, .mv (.tmp 1)⟩,
⟨some 14, none, .mv (.tmp 2)⟩,
⟨some 15, none, .mv (.tmp 3)⟩,
⟨some 16, none, .bld [(.int .i64 0), (.int .i64 0), (.int .i64 0), (.int .i64 0)] [(0, 1, (.tmp 13)), (1, 1, (.tmp 14)), (2, 1, (.tmp 15))]⟩,
⟨some 17, none, .call 210 .pure [(.tmp 12), (.tmp 16)]⟩,
⟨some 11, none, .mv (.tmp 17)⟩,
⟨some 18, none, .ext 0 (.tmp 11)⟩,
⟨some 19, none, .ext 1 (.tmp 11)⟩,
⟨some 9, none, .mv (.tmp 18)⟩,
⟨some 10, none, .mv (.tmp 19)⟩] [] [10])
(.seq
(.reg [⟨some 20, none, .mv (.tmp 10)⟩,
⟨some 8, none, .mv (.tmp 20)⟩] [] [8])
(.ret)))⟩
theorem pf205_ok : fnOk Tryz.prog 205 pf205 = true := by kernel_rfl

/-- slices.siftDownOrdered[int] -/
def pf206 : PFn := ⟨76, 4, [], .seq
(.reg [⟨some 10, none, .mv (.tmp 1)⟩,
⟨some 8, none, .mv (.tmp 10)⟩] [] [0, 2, 3, 8])
(.blk 0 (.loop (.blk 1 (.seq
(.reg [⟨some 11, none, .mv (.tmp 8)⟩,
⟨some 12, none, .bin .mul (.val (.int .i64 2)) (.tmp 11)⟩,
⟨some 13, none, .bin .add (.tmp 12) (.val (.int .i64 1))⟩,
⟨some 9, none, .mv (.tmp 13)⟩] [] [0, 2, 3, 8, 9])
(.seq
(.seq
(.reg [⟨some 14, none, .mv (.tmp 9)⟩,
⟨some 15, none, .mv (.tmp 2)⟩,
⟨some 16, none, .bin .geq (.tmp 14) (.tmp 15)⟩] [] [0, 2, 3, 8, 9, 16])
(.cond (.tmp 16)
(.ext 0)
(.skip)))
(.seq
(.seq
(.reg [⟨some 17, none, .mv (.tmp 9)⟩,
⟨some 18, none, .bin .add (.tmp 17) (.val (.int .i64 1))⟩,
⟨some 19, none, .mv (.tmp 2)⟩,
⟨some 20, none, .bin .lss (.tmp 18) (.tmp 19)⟩,
⟨some 21, none, .mv (.tmp 20)⟩,
⟨some 22, (some (21, true)), .mv (.tmp 0)⟩,
⟨some 23, (some (21, true)), .mv (.tmp 3)⟩,
⟨some 24, (some (21, true)), .mv (.tmp 9)⟩,
⟨some 25, (some (21, true)), .bin .add (.tmp 23) (.tmp 24)⟩,
⟨some 26, (some (21, true)), .iaS 1 (.tmp 22) (.tmp 25)⟩,
⟨some 27, (some (21, true)), .ld none (.tmp 26)⟩,
⟨some 28, (some (21, true)), .mv (.tmp 0)⟩,
⟨some 29, (some (21, true)), .mv (.tmp 3)⟩,
⟨some 30, (some (21, true)), .mv (.tmp 9)⟩,
⟨some 31, (some (21, true)), .bin .add (.tmp 29) (.tmp 30)⟩,
⟨some 32, (some (21, true)), .bin .add (.tmp 31) (.val (.int .i64 1))⟩,
⟨some 33, (some (21, true)), .iaS 1 (.tmp 28) (.tmp 32)⟩,
⟨some 34, (some (21, true)), .ld none (.tmp 33)⟩,
⟨some 35, (some (21, true)), .call 191 .pure [(.tmp 27), (.tmp 34)]⟩,
⟨some 36, none, .pick (.tmp 21) (.tmp 35) (.val (.bool false))⟩] [] [0, 2, 3, 8, 9, 36])
(.cond (.tmp 36)
(.reg [⟨some 37, none, .mv (.tmp 9)⟩,
⟨some 38, none, .bin .add (.tmp 37) (.val (.int .i64 1))⟩,
⟨some 9, none, .mv (.tmp 38)⟩] [] [0, 2, 3, 8, 9])
(.skip)))
(.seq
(.seq
(.reg [⟨some 39, none, .mv (.tmp 0)⟩,
⟨some 40, none, .mv (.tmp 3)⟩,
⟨some 41, none, .mv (.tmp 8)⟩,
⟨some 42, none, .bin .add (.tmp 40) (.tmp 41)⟩,
⟨some 43, none, .iaS 1 (.tmp 39) (.tmp 42)⟩,
⟨some 44, none, .ld none (.tmp 43)⟩,
⟨some 45, none, .mv (.tmp 0)⟩,
⟨some 46, none, .mv (.tmp 3)⟩,
⟨some 47, none, .mv (.tmp 9)⟩,
⟨some 48, none, .bin .add (.tmp 46) (.tmp 47)⟩,
⟨some 49, none, .iaS 1 (.tmp 45) (.tmp 48)⟩,
⟨some 50, none, .ld none (.tmp 49)⟩,
⟨some 51, none, .call 191 .pure [(.tmp 44), (.tmp 50)]⟩,
⟨some 52, none, .un .not (.tmp 51)⟩] [] [0, 2, 3, 8, 9, 52])
(.cond (.tmp 52)
(.ret)
(.skip)))
(.seq
(.reg [⟨some 53, none, .mv (.tmp 0)⟩,
⟨some 54, none, .mv (.tmp 3)⟩,
⟨some 55, none, .mv (.tmp 8)⟩,
⟨some 56, none, .bin .add (.tmp 54) (.tmp 55)⟩,
⟨some 57, none, .mv (.tmp 0)⟩,
⟨some 58, none, .mv (.tmp 3)⟩,
⟨some 59, none, .mv (.tmp 9)⟩,
⟨some 60, none, .bin .add (.tmp 58) (.tmp 59)⟩,
⟨some 61, none, .mv (.tmp 0)⟩,
⟨some 62, none, .mv (.tmp 3)⟩,
⟨some 63, none, .mv (.tmp 9)⟩,
⟨some 64, none, .bin .add (.tmp 62) (.tmp 63)⟩,
⟨some 65, none, .iaS 1 (.tmp 61) (.tmp 64)⟩,
⟨some 66, none, .ld none (.tmp 65)⟩,
⟨some 67, none, .mv (.tmp 0)⟩,
⟨some 68, none, .mv (.tmp 3)⟩,
⟨some 69, none, .mv (.tmp 8)⟩,
⟨some 70, none, .bin .add (.tmp 68) (.tmp 69)⟩,
⟨some 71, none, .iaS 1 (.tmp 67) (.tmp 70)⟩,
⟨some 72, none, .ld none (.tmp 71)⟩,
⟨some 73, none, .iaS 1 (.tmp 53) (.tmp 56)⟩,
⟨none, none, .st 1 (.tmp 73) (.tmp 66)⟩,
⟨some 74, none, .iaS 1 (.tmp 57) (.tmp 60)⟩,
⟨none, none, .st 1 (.tmp 74) (.tmp 72)⟩] [] [0, 2, 3, 9])
(.reg [⟨some 75, none, .mv (.tmp 9)⟩,
⟨some 8, none, .mv (.tmp 75)⟩] [] [0, 2, 3, 8])))))))))⟩
theorem pf206_ok : fnOk Tryz.prog 206 pf206 = true := by kernel_rfl

/-- slices.medianAdjacentOrdered[int] -/
def pf207 : PFn := ⟨15, 3, [.tmp 6], .seq
(.reg [⟨some 6, none, .mv (.val (.int .i64 0))⟩] [] [0, 1, 2])
(.seq
(.reg [⟨some 7, none, .mv (.tmp 0)⟩,
⟨some 8, none, .mv (.tmp 1)⟩,
⟨some 9, none, .bin .sub (.tmp 8) (.val (.int .i64 1))⟩,
⟨some 10, none, .mv (.tmp 1)⟩,
⟨some 11, none, .mv (.tmp 1)⟩,
⟨some 12, none, .bin .add (.tmp 11) (.val (.int .i64 1))⟩,
⟨some 13, none, .mv (.tmp 2)⟩,
⟨some 14, none, .call 208 .pure [(.tmp 7), (.tmp 9), (.tmp 10), (.tmp 12), (.tmp 13)]⟩,
⟨some 6, none, .mv (.tmp 14)⟩] [] [6])
(.ret))⟩
theorem pf207_ok : fnOk Tryz.prog 207 pf207 = true := by kernel_rfl

/-- slices.medianOrdered[int] -/
def pf208 : PFn := ⟨36, 5, [.tmp 10], .seq
(.reg [⟨some 10, none, .mv (.val (.int .i64 0))⟩] [] [0, 1, 2, 3, 4])
(.seq
(.reg [⟨some 12, none, .mv (.tmp 0)⟩,
⟨some 13, none, .mv (.tmp 1)⟩,
⟨some 14, none, .mv (.tmp 2)⟩,
⟨some 15, none, .mv (.tmp 4)⟩,
⟨some 16, none, .call 211 .pure [(.tmp 12), (.tmp 13), (.tmp 14), (.tmp 15)]⟩,
⟨some 11, none, .mv (.tmp 16)⟩,
⟨some 17, none, .ext 0 (.tmp 11)⟩,
⟨some 18, none, .ext 1 (.tmp 11)⟩,
⟨some 1, none, .mv (.tmp 17)⟩,
⟨some 2, none, .mv (.tmp 18)⟩] [] [0, 1, 2, 3, 4])
(.seq
(.reg [⟨some 20, none, .mv (.tmp 0)⟩,
⟨some 21, none, .mv (.tmp 2)⟩,
⟨some 22, none, .mv (.tmp 3)⟩,
⟨some 23, none, .mv (.tmp 4)⟩,
⟨some 24, none, .call 211 .pure [(.tmp 20), (.tmp 21), (.tmp 22), (.tmp 23)]⟩,
⟨some 19, none, .mv (.tmp 24)⟩,
⟨some 25, none, .ext 0 (.tmp 19)⟩,
⟨some 26, none, .ext 1 (.tmp 19)⟩,
⟨some 2, none, .mv (.tmp 25)⟩,
⟨some 3, none, .mv (.tmp 26)⟩] [] [0, 1, 2, 4])
(.seq
(.reg [⟨some 28, none, .mv (.tmp 0)⟩,
⟨some 29, none, .mv (.tmp 1)⟩,
⟨some 30, none, .mv (.tmp 2)⟩,
⟨some 31, none, .mv (.tmp 4)⟩,
⟨some 32, none, .call 211 .pure [(.tmp 28), (.tmp 29), (.tmp 30), (.tmp 31)]⟩,
⟨some 27, none, .mv (.tmp 32)⟩,
⟨some 33, none, .ext 0 (.tmp 27)⟩,
⟨some 34, none, .ext 1 (.tmp 27)⟩,
⟨some 1, none, .mv (.tmp 33)⟩,
⟨some 2, none, .mv (.tmp 34)⟩] [] [2])
(.seq
(.reg [⟨some 35, none, .mv (.tmp 2)⟩,
⟨some 10, none, .mv (.tmp 35)⟩] [] [10])
(.ret)))))⟩
theorem pf208_ok : fnOk Tryz.prog 208 pf208 = true := by kernel_rfl

/-- slices.order2CmpFunc[hinterland/api.Spot] -/
def pf209 : PFn := ⟨32, 5, [.tmp 10, .tmp 11], .seq
(.reg [⟨some 10, none, .mv (.val (.int .i64 0))⟩,
⟨some 11, none, .mv (.val (.int .i64 0))⟩] [] [0, 1, 2, 3, 4])
(.seq
(.seq
(.reg [⟨some 12, none, .mv (.tmp 4)⟩,
⟨some 13, none, .mv (.tmp 0)⟩,
⟨some 14, none, .mv (.tmp 2)⟩,
⟨some 15, none, .iaS 3 (.tmp 13) (.tmp 14)⟩,
⟨some 16, none, .ld (some 3) (.tmp 15)⟩,
⟨some 17, none, .mv (.tmp 0)⟩,
⟨some 18, none, .mv (.tmp 1)⟩,
⟨some 19, none, .iaS 3 (.tmp 17) (.tmp 18)⟩,
⟨some 20, none, .ld (some 3) (.tmp 19)⟩,
⟨some 21, none, .callv (.tmp 12) .pure [(.tmp 16), (.tmp 20)]⟩,
⟨some 22, none, .bin .lss (.tmp 21) (.val (.int .i64 0))⟩] [] [1, 2, 3, 22])
(.cond (.tmp 22)
(.seq
(.reg [⟨some 23, none, .mv (.tmp 3)⟩,
⟨some 24, none, .nck (.tmp 23)⟩,
⟨some 25, none, .ld none (.tmp 24)⟩,
⟨some 26, none, .bin .add (.tmp 25) (.val (.int .i64 1))⟩,
⟨some 27, none, .nck (.tmp 23)⟩,
⟨none, none, .st 1 (.tmp 27) (.tmp 26)⟩] [] [1, 2])
(.seq
(.reg [⟨some 28, none, .mv (.tmp 2)⟩,
⟨some 29, none, .mv (.tmp 1)⟩,
⟨some 10, none, .mv (.tmp 28)⟩,
⟨some 11, none, .mv (.tmp 29)⟩] [] [10, 11])
(.ret)))
(.skip)))
(.seq
(.reg [⟨some 30, none, .mv (.tmp 1)⟩,
⟨some 31, none, .mv (.tmp 2)⟩,
⟨some 10, none, .mv (.tmp 30)⟩,
⟨some 11, none, .mv (.tmp 31)⟩] [] [10, 11])
(.ret)))⟩
theorem pf209_ok : fnOk Tryz.prog 209 pf209 = true := by kernel_rfl

/-- hinterland/block.at -/
def pf210 : PFn := ⟨11, 2, [.tmp 4, .tmp 5], .seq
(.reg [⟨some 3, none, .boxp 75 (.tmp 1)⟩,
⟨some 4, none, .mv (.val (.int .i64 0))⟩,
⟨some 5, none, .mv (.val (.bool false))⟩] [] [0, 3])
(.seq
(.reg [⟨some 6, none, .mv (.tmp 0)⟩,
⟨some 7, none, .ld (some 4) (.tmp 3)⟩,
⟨some 8, none, .call 212 .pure [(.tmp 6), (.tmp 7), (.val (.clo (.func 105) [] []))]⟩,
⟨some 9, none, .ext 0 (.tmp 8)⟩,
⟨some 10, none, .ext 1 (.tmp 8)⟩,
⟨some 4, none, .mv (.tmp 9)⟩,
⟨some 5, none, .mv (.tmp 10)⟩] [] [4, 5])
(.ret))⟩
theorem pf210_ok : fnOk Tryz.prog 210 pf210 = true := by kernel_rfl

/-- slices.order2Ordered[int] -/
def pf211 : PFn := ⟨28, 4, [.tmp 8, .tmp 9], .seq
(.reg [⟨some 8, none, .mv (.val (.int .i64 0))⟩,
⟨some 9, none, .mv (.val (.int .i64 0))⟩] [] [0, 1, 2, 3])
(.seq
(.seq
(.reg [⟨some 10, none, .mv (.tmp 0)⟩,
⟨some 11, none, .mv (.tmp 2)⟩,
⟨some 12, none, .iaS 1 (.tmp 10) (.tmp 11)⟩,
⟨some 13, none, .ld none (.tmp 12)⟩,
⟨some 14, none, .mv (.tmp 0)⟩,
⟨some 15, none, .mv (.tmp 1)⟩,
⟨some 16, none, .iaS 1 (.tmp 14) (.tmp 15)⟩,
⟨some 17, none, .ld none (.tmp 16)⟩,
⟨some 18, none, .call 191 .pure [(.tmp 13), (.tmp 17)]⟩] [] [1, 2, 3, 18])
(.cond (.tmp 18)
(.seq
(.reg [⟨some 19, none, .mv (.tmp 3)⟩,
⟨some 20, none, .nck (.tmp 19)⟩,
⟨some 21, none, .ld none (.tmp 20)⟩,
⟨some 22, none, .bin .add (.tmp 21) (.val (.int .i64 1))⟩,
⟨some 23, none, .nck (.tmp 19)⟩,
⟨none, none, .st 1 (.tmp 23) (.tmp 22)⟩] [] [1, 2])
(.seq
(.reg [⟨some 24, none, .mv (.tmp 2)⟩,
⟨some 25, none, .mv (.tmp 1)⟩,
⟨some 8, none, .mv (.tmp 24)⟩,
⟨some 9, none, .mv (.tmp 25)⟩] [] [8, 9])
(.ret)))
(.skip)))
(.seq
(.reg [⟨some 26, none, .mv (.tmp 1)⟩,
⟨some 27, none, .mv (.tmp 2)⟩,
⟨some 8, none, .mv (.tmp 26)⟩,
⟨some 9, none, .mv (.tmp 27)⟩] [] [8, 9])
(.ret)))⟩
theorem pf211_ok : fnOk Tryz.prog 211 pf211 = true := by kernel_rfl

/-- slices.BinarySearchFunc[[]hinterland/api.Signal,hinterland/api.Signal,hinterland/api.Signal] -/
def pf212 : PFn := ⟨49, 3, [.tmp 6, .tmp 7], .seq
(.reg [⟨some 4, none, .boxp 75 (.tmp 1)⟩,
⟨some 6, none, .mv (.val (.int .i64 0))⟩,
⟨some 7, none, .mv (.val (.bool false))⟩] [] [0, 2, 4])
(.seq
(.reg [⟨some 12, none, .mv (.tmp 0)⟩,
⟨some 13, none, .len (.tmp 12)⟩,
⟨some 8, none, .mv (.tmp 13)⟩] [] [0, 2, 4, 8])
(.seq
(.reg [⟨some 14, none, .mv (.tmp 8)⟩,
⟨some 9, none, .mv (.val (.int .i64 0))⟩,
⟨some 10, none, .mv (.tmp 14)⟩] [] [0, 2, 4, 8, 9, 10])
(.seq
(.blk 0 (.loop (.seq
(.seq
(.reg [⟨some 15, none, .mv (.tmp 9)⟩,
⟨some 16, none, .mv (.tmp 10)⟩,
⟨some 17, none, .bin .lss (.tmp 15) (.tmp 16)⟩] [] [0, 2, 4, 8, 9, 10, 17])
(.cond (.tmp 17)
(.skip)
(.ext 0)))
(.blk 1 (.seq
(.reg [⟨some 18, none, .mv (.tmp 9)⟩,
⟨some 19, none, .mv (.tmp 10)⟩,
⟨some 20, none, .bin .add (.tmp 18) (.tmp 19)⟩,
⟨some 21, none, .conv .u64 (.tmp 20)⟩,
⟨some 22, none, .bin .shr (.tmp 21) (.val (.int .u64 1))⟩,
⟨some 23, none, .conv .i64 (.tmp 22)⟩,
⟨some 11, none, .mv (.tmp 23)⟩] [] [0, 2, 4, 8, 9, 10, 11])
(.seq
(.reg [⟨some 24, none, .mv (.tmp 2)⟩,
⟨some 25, none, .mv (.tmp 0)⟩,
⟨some 26, none, .mv (.tmp 11)⟩,
⟨some 27, none, .iaS 4 (.tmp 25) (.tmp 26)⟩,
⟨some 28, none, .ld (some 4) (.tmp 27)⟩,
⟨some 29, none, .ld (some 4) (.tmp 4)⟩,
⟨some 30, none, .callv (.tmp 24) .pure [(.tmp 28), (.tmp 29)]⟩,
⟨some 31, none, .bin .lss (.tmp 30) (.val (.int .i64 0))⟩] [] [0, 2, 4, 8, 9, 10, 11, 31])
(.cond (.tmp 31)
(.reg [⟨some 32, none, .mv (.tmp 11)⟩,
⟨some 33, none, .bin .add (.tmp 32) (.val (.int .i64 1))⟩,
⟨some 9, none, .mv (.tmp 33)⟩] [] [0, 2, 4, 8, 9, 10])
(.reg [⟨some 34, none, .mv (.tmp 11)⟩,
⟨some 10, none, .mv (.tmp 34)⟩] [] [0, 2, 4, 8, 9, 10]))))))))
(.seq
(.reg [⟨some 35, none, .mv (.tmp 9)⟩,
⟨some 36, none, .mv (.tmp 9)⟩,
⟨some 37, none, .mv (.tmp 8)⟩,
⟨some 38, none, .bin .lss (.tmp 36) (.tmp 37)⟩,
⟨some 39, none, .mv (.tmp 38)⟩,
⟨some 40, (some (39, true)), .mv (.tmp 2)⟩,
⟨some 41, (some (39, true)), .mv (.tmp 0)⟩,
⟨some 42, (some (39, true)), .mv (.tmp 9)⟩,
⟨some 43, (some (39, true)), .iaS 4 (.tmp 41) (.tmp 42)⟩,
⟨some 44, (some (39, true)), .ld (some 4) (.tmp 43)⟩,
⟨some 45, (some (39, true)), .ld (some 4) (.tmp 4)⟩,
⟨some 46, (some (39, true)), .callv (.tmp 40) .pure [(.tmp 44), (.tmp 45)]⟩,
⟨some 47, (some (39, true)), .bin .eql (.tmp 46) (.val (.int .i64 0))⟩,
⟨some 48, none, .pick (.tmp 39) (.tmp 47) (.val (.bool false))⟩,
⟨some 6, none, .mv (.tmp 35)⟩,
⟨some 7, none, .mv (.tmp 48)⟩] [] [6, 7])
(.ret)))))⟩
theorem pf212_ok : fnOk Tryz.prog 212 pf212 = true := by kernel_rfl

end Go.Proofs.YtiaeckidlmoohaaGreat
