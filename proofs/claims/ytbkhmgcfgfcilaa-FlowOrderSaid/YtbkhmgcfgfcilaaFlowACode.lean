/- PCode of functions, written by wip/tools/gen.py out of the loaded functions' print. -/
import Derived.Test.YtbkhmgcfgfcilaaPmTwenty
import Derived.Test.YtbkhmgcfgfcilaaProg
import Derived.KernelRfl
set_option maxRecDepth 100000
namespace Go.Proofs.Ytbkhmgcfgfcilaa
open Go.Proofs.Ytbkhmgcfgfcilaa.PM

/-- cmp.isNaN[int] -/
def pf35 : PFn := ⟨6, 1, [.tmp 2], .seq
  (.reg [⟨some 2, none, .mv (.val (.bool false))⟩] [] [0])
  (.seq
  (.reg [⟨some 3, none, .mv (.tmp 0)⟩,
    ⟨some 4, none, .mv (.tmp 0)⟩,
    ⟨some 5, none, .bin .neq (.tmp 3) (.tmp 4)⟩,
    ⟨some 2, none, .mv (.tmp 5)⟩] [] [2])
  (.ret))⟩
theorem pf35_ok : fnOk Try.prog 35 pf35 = true := by kernel_rfl

/-- hinterland/flow.within -/
def pf19 : PFn := ⟨12, 2, [.tmp 4], .seq
  (.reg [⟨some 4, none, .mv (.val (.bool false))⟩] [] [0, 1])
  (.seq
  (.reg [⟨some 5, none, .mv (.tmp 0)⟩,
    ⟨some 6, none, .bin .geq (.tmp 5) (.val (.int .i64 0))⟩,
    ⟨some 7, none, .mv (.tmp 6)⟩,
    ⟨some 8, (some (7, true)), .mv (.tmp 0)⟩,
    ⟨some 9, (some (7, true)), .mv (.tmp 1)⟩,
    ⟨some 10, (some (7, true)), .bin .leq (.tmp 8) (.tmp 9)⟩,
    ⟨some 11, none, .pick (.tmp 7) (.tmp 10) (.val (.bool false))⟩,
    ⟨some 4, none, .mv (.tmp 11)⟩] [] [4])
  (.ret))⟩
theorem pf19_ok : fnOk Try.prog 19 pf19 = true := by kernel_rfl

/-- slices.swapRangeCmpFunc[int] -/
def pf41 : PFn := ⟨38, 5, [], .seq
  (.reg [⟨some 10, none, .mv (.val (.int .i64 0))⟩] [] [0, 1, 2, 3, 10])
  (.blk 0 (.loop (.seq
  (.seq
  (.reg [⟨some 11, none, .mv (.tmp 10)⟩,
    ⟨some 12, none, .mv (.tmp 3)⟩,
    ⟨some 13, none, .bin .lss (.tmp 11) (.tmp 12)⟩] [] [0, 1, 2, 3, 10, 13])
  (.cond (.tmp 13)
  (.skip)
  (.ext 0)))
  (.seq
  (.blk 1 (.reg [⟨some 16, none, .mv (.tmp 0)⟩,
    ⟨some 17, none, .mv (.tmp 1)⟩,
    ⟨some 18, none, .mv (.tmp 10)⟩,
    ⟨some 19, none, .bin .add (.tmp 17) (.tmp 18)⟩,
    ⟨some 20, none, .mv (.tmp 0)⟩,
    ⟨some 21, none, .mv (.tmp 2)⟩,
    ⟨some 22, none, .mv (.tmp 10)⟩,
    ⟨some 23, none, .bin .add (.tmp 21) (.tmp 22)⟩,
    ⟨some 24, none, .mv (.tmp 0)⟩,
    ⟨some 25, none, .mv (.tmp 2)⟩,
    ⟨some 26, none, .mv (.tmp 10)⟩,
    ⟨some 27, none, .bin .add (.tmp 25) (.tmp 26)⟩,
    ⟨some 28, none, .iaS 1 (.tmp 24) (.tmp 27)⟩,
    ⟨some 29, none, .ld none (.tmp 28)⟩,
    ⟨some 30, none, .mv (.tmp 0)⟩,
    ⟨some 31, none, .mv (.tmp 1)⟩,
    ⟨some 32, none, .mv (.tmp 10)⟩,
    ⟨some 33, none, .bin .add (.tmp 31) (.tmp 32)⟩,
    ⟨some 34, none, .iaS 1 (.tmp 30) (.tmp 33)⟩,
    ⟨some 35, none, .ld none (.tmp 34)⟩,
    ⟨some 36, none, .iaS 1 (.tmp 16) (.tmp 19)⟩,
    ⟨none, none, .st 1 (.tmp 36) (.tmp 29)⟩,
    ⟨some 37, none, .iaS 1 (.tmp 20) (.tmp 23)⟩,
    ⟨none, none, .st 1 (.tmp 37) (.tmp 35)⟩] [] [0, 1, 2, 3, 10]))
  (.reg [⟨some 14, none, .mv (.tmp 10)⟩,
    ⟨some 15, none, .bin .add (.tmp 14) (.val (.int .i64 1))⟩,
    ⟨some 10, none, .mv (.tmp 15)⟩] [] [0, 1, 2, 3, 10])))))⟩
theorem pf41_ok : fnOk Try.prog 41 pf41 = true := by kernel_rfl

/-- slices.rotateCmpFunc[int] -/
def pf40 : PFn := ⟨58, 5, [], .seq
  (.reg [⟨some 12, none, .mv (.tmp 2)⟩,
    ⟨some 13, none, .mv (.tmp 1)⟩,
    ⟨some 14, none, .bin .sub (.tmp 12) (.tmp 13)⟩,
    ⟨some 10, none, .mv (.tmp 14)⟩] [] [0, 2, 3, 4, 10])
  (.seq
  (.reg [⟨some 15, none, .mv (.tmp 3)⟩,
    ⟨some 16, none, .mv (.tmp 2)⟩,
    ⟨some 17, none, .bin .sub (.tmp 15) (.tmp 16)⟩,
    ⟨some 11, none, .mv (.tmp 17)⟩] [] [0, 2, 4, 10, 11])
  (.seq
  (.blk 0 (.loop (.seq
  (.seq
  (.reg [⟨some 18, none, .mv (.tmp 10)⟩,
    ⟨some 19, none, .mv (.tmp 11)⟩,
    ⟨some 20, none, .bin .neq (.tmp 18) (.tmp 19)⟩] [] [0, 2, 4, 10, 11, 20])
  (.cond (.tmp 20)
  (.skip)
  (.ext 0)))
  (.blk 1 (.seq
  (.reg [⟨some 21, none, .mv (.tmp 10)⟩,
    ⟨some 22, none, .mv (.tmp 11)⟩,
    ⟨some 23, none, .bin .gtr (.tmp 21) (.tmp 22)⟩] [] [0, 2, 4, 10, 11, 23])
  (.cond (.tmp 23)
  (.seq
  (.reg [⟨some 24, none, .mv (.tmp 0)⟩,
    ⟨some 25, none, .mv (.tmp 2)⟩,
    ⟨some 26, none, .mv (.tmp 10)⟩,
    ⟨some 27, none, .bin .sub (.tmp 25) (.tmp 26)⟩,
    ⟨some 28, none, .mv (.tmp 2)⟩,
    ⟨some 29, none, .mv (.tmp 11)⟩,
    ⟨some 30, none, .mv (.tmp 4)⟩,
    ⟨some 31, none, .call 41 .opn [(.tmp 24), (.tmp 27), (.tmp 28), (.tmp 29), (.tmp 30)]⟩] [] [0, 2, 4, 10, 11])
  (.reg [⟨some 32, none, .mv (.tmp 10)⟩,
    ⟨some 33, none, .mv (.tmp 11)⟩,
    ⟨some 34, none, .bin .sub (.tmp 32) (.tmp 33)⟩,
    ⟨some 10, none, .mv (.tmp 34)⟩] [] [0, 2, 4, 10, 11]))
  (.seq
  (.reg [⟨some 35, none, .mv (.tmp 0)⟩,
    ⟨some 36, none, .mv (.tmp 2)⟩,
    ⟨some 37, none, .mv (.tmp 10)⟩,
    ⟨some 38, none, .bin .sub (.tmp 36) (.tmp 37)⟩,
    ⟨some 39, none, .mv (.tmp 2)⟩,
    ⟨some 40, none, .mv (.tmp 11)⟩,
    ⟨some 41, none, .bin .add (.tmp 39) (.tmp 40)⟩,
    ⟨some 42, none, .mv (.tmp 10)⟩,
    ⟨some 43, none, .bin .sub (.tmp 41) (.tmp 42)⟩,
    ⟨some 44, none, .mv (.tmp 10)⟩,
    ⟨some 45, none, .mv (.tmp 4)⟩,
    ⟨some 46, none, .call 41 .opn [(.tmp 35), (.tmp 38), (.tmp 43), (.tmp 44), (.tmp 45)]⟩] [] [0, 2, 4, 10, 11])
  (.reg [⟨some 47, none, .mv (.tmp 11)⟩,
    ⟨some 48, none, .mv (.tmp 10)⟩,
    ⟨some 49, none, .bin .sub (.tmp 47) (.tmp 48)⟩,
    ⟨some 11, none, .mv (.tmp 49)⟩] [] [0, 2, 4, 10, 11]))))))))
  (.reg [⟨some 50, none, .mv (.tmp 0)⟩,
    ⟨some 51, none, .mv (.tmp 2)⟩,
    ⟨some 52, none, .mv (.tmp 10)⟩,
    ⟨some 53, none, .bin .sub (.tmp 51) (.tmp 52)⟩,
    ⟨some 54, none, .mv (.tmp 2)⟩,
    ⟨some 55, none, .mv (.tmp 10)⟩,
    ⟨some 56, none, .mv (.tmp 4)⟩,
    ⟨some 57, none, .call 41 .opn [(.tmp 50), (.tmp 53), (.tmp 54), (.tmp 55), (.tmp 56)]⟩] [] [])))⟩
theorem pf40_ok : fnOk Try.prog 40 pf40 = true := by kernel_rfl

/-- slices.symMergeCmpFunc[int] -/
def pf38 : PFn := ⟨220, 5, [], .seq
  (.seq
  (.reg [⟨some 25, none, .mv (.tmp 2)⟩,
    ⟨some 26, none, .mv (.tmp 1)⟩,
    ⟨some 27, none, .bin .sub (.tmp 25) (.tmp 26)⟩,
    ⟨some 28, none, .bin .eql (.tmp 27) (.val (.int .i64 1))⟩] [] [0, 1, 2, 3, 4, 28])
  (.cond (.tmp 28)
  (.seq
  (.reg [⟨some 29, none, .mv (.tmp 2)⟩,
    ⟨some 10, none, .mv (.tmp 29)⟩] [] [0, 1, 3, 4, 10])
  (.seq
  (.reg [⟨some 30, none, .mv (.tmp 3)⟩,
    ⟨some 11, none, .mv (.tmp 30)⟩] [] [0, 1, 4, 10, 11])
  (.seq
  (.blk 0 (.loop (.seq
  (.seq
  (.reg [⟨some 31, none, .mv (.tmp 10)⟩,
    ⟨some 32, none, .mv (.tmp 11)⟩,
    ⟨some 33, none, .bin .lss (.tmp 31) (.tmp 32)⟩] [] [0, 1, 4, 10, 11, 33])
  (.cond (.tmp 33)
  (.skip)
  (.ext 0)))
  (.blk 1 (.seq
  (.reg [⟨some 34, none, .mv (.tmp 10)⟩,
    ⟨some 35, none, .mv (.tmp 11)⟩,
    ⟨some 36, none, .bin .add (.tmp 34) (.tmp 35)⟩,
    ⟨some 37, none, .conv .u64 (.tmp 36)⟩,
    ⟨some 38, none, .bin .shr (.tmp 37) (.val (.int .u64 1))⟩,
    ⟨some 39, none, .conv .i64 (.tmp 38)⟩,
    ⟨some 12, none, .mv (.tmp 39)⟩] [] [0, 1, 4, 10, 11, 12])
  (.seq
  (.reg [⟨some 40, none, .mv (.tmp 4)⟩,
    ⟨some 41, none, .mv (.tmp 0)⟩,
    ⟨some 42, none, .mv (.tmp 12)⟩,
    ⟨some 43, none, .iaS 1 (.tmp 41) (.tmp 42)⟩,
    ⟨some 44, none, .ld none (.tmp 43)⟩,
    ⟨some 45, none, .mv (.tmp 0)⟩,
    ⟨some 46, none, .mv (.tmp 1)⟩,
    ⟨some 47, none, .iaS 1 (.tmp 45) (.tmp 46)⟩,
    ⟨some 48, none, .ld none (.tmp 47)⟩,
    ⟨some 49, none, .callv (.tmp 40) .pure [(.tmp 44), (.tmp 48)]⟩,
    ⟨some 50, none, .bin .lss (.tmp 49) (.val (.int .i64 0))⟩] [] [0, 1, 4, 10, 11, 12, 50])
  (.cond (.tmp 50)
  (.reg [⟨some 51, none, .mv (.tmp 12)⟩,
    ⟨some 52, none, .bin .add (.tmp 51) (.val (.int .i64 1))⟩,
    ⟨some 10, none, .mv (.tmp 52)⟩] [] [0, 1, 4, 10, 11])
  (.reg [⟨some 53, none, .mv (.tmp 12)⟩,
    ⟨some 11, none, .mv (.tmp 53)⟩] [] [0, 1, 4, 10, 11]))))))))
  (.seq
  (.seq
  (.reg [⟨some 54, none, .mv (.tmp 1)⟩,
    ⟨some 13, none, .mv (.tmp 54)⟩] [] [0, 10, 13])
  (.blk 2 (.loop (.seq
  (.seq
  (.reg [⟨some 55, none, .mv (.tmp 13)⟩,
    ⟨some 56, none, .mv (.tmp 10)⟩,
    ⟨some 57, none, .bin .sub (.tmp 56) (.val (.int .i64 1))⟩,
    ⟨some 58, none, .bin .lss (.tmp 55) (.tmp 57)⟩] [] [0, 10, 13, 58])
  (.cond (.tmp 58)
  (.skip)
  (.ext 2)))
  (.seq
  (.blk 3 (.reg [⟨some 61, none, .mv (.tmp 0)⟩,
    ⟨some 62, none, .mv (.tmp 13)⟩,
    ⟨some 63, none, .mv (.tmp 0)⟩,
    ⟨some 64, none, .mv (.tmp 13)⟩,
    ⟨some 65, none, .bin .add (.tmp 64) (.val (.int .i64 1))⟩,
    ⟨some 66, none, .mv (.tmp 0)⟩,
    ⟨some 67, none, .mv (.tmp 13)⟩,
    ⟨some 68, none, .bin .add (.tmp 67) (.val (.int .i64 1))⟩,
    ⟨some 69, none, .iaS 1 (.tmp 66) (.tmp 68)⟩,
    ⟨some 70, none, .ld none (.tmp 69)⟩,
    ⟨some 71, none, .mv (.tmp 0)⟩,
    ⟨some 72, none, .mv (.tmp 13)⟩,
    ⟨some 73, none, .iaS 1 (.tmp 71) (.tmp 72)⟩,
    ⟨some 74, none, .ld none (.tmp 73)⟩,
    ⟨some 75, none, .iaS 1 (.tmp 61) (.tmp 62)⟩,
    ⟨none, none, .st 1 (.tmp 75) (.tmp 70)⟩,
    ⟨some 76, none, .iaS 1 (.tmp 63) (.tmp 65)⟩,
    ⟨none, none, .st 1 (.tmp 76) (.tmp 74)⟩] [] [0, 10, 13]))
  (.reg [⟨some 59, none, .mv (.tmp 13)⟩,
    ⟨some 60, none, .bin .add (.tmp 59) (.val (.int .i64 1))⟩,
    ⟨some 13, none, .mv (.tmp 60)⟩] [] [0, 10, 13]))))))
  (.ret)))))
  (.skip)))
  (.seq
  (.seq
  (.reg [⟨some 77, none, .mv (.tmp 3)⟩,
    ⟨some 78, none, .mv (.tmp 2)⟩,
    ⟨some 79, none, .bin .sub (.tmp 77) (.tmp 78)⟩,
    ⟨some 80, none, .bin .eql (.tmp 79) (.val (.int .i64 1))⟩] [] [0, 1, 2, 3, 4, 80])
  (.cond (.tmp 80)
  (.seq
  (.reg [⟨some 81, none, .mv (.tmp 1)⟩,
    ⟨some 14, none, .mv (.tmp 81)⟩] [] [0, 2, 4, 14])
  (.seq
  (.reg [⟨some 82, none, .mv (.tmp 2)⟩,
    ⟨some 15, none, .mv (.tmp 82)⟩] [] [0, 2, 4, 14, 15])
  (.seq
  (.blk 4 (.loop (.seq
  (.seq
  (.reg [⟨some 83, none, .mv (.tmp 14)⟩,
    ⟨some 84, none, .mv (.tmp 15)⟩,
    ⟨some 85, none, .bin .lss (.tmp 83) (.tmp 84)⟩] [] [0, 2, 4, 14, 15, 85])
  (.cond (.tmp 85)
  (.skip)
  (.ext 4)))
  (.blk 5 (.seq
  (.reg [⟨some 86, none, .mv (.tmp 14)⟩,
    ⟨some 87, none, .mv (.tmp 15)⟩,
    ⟨some 88, none, .bin .add (.tmp 86) (.tmp 87)⟩,
    ⟨some 89, none, .conv .u64 (.tmp 88)⟩,
    ⟨some 90, none, .bin .shr (.tmp 89) (.val (.int .u64 1))⟩,
    ⟨some 91, none, .conv .i64 (.tmp 90)⟩,
    ⟨some 16, none, .mv (.tmp 91)⟩] [] [0, 2, 4, 14, 15, 16])
  (.seq
  (.reg [⟨some 92, none, .mv (.tmp 4)⟩,
    ⟨some 93, none, .mv (.tmp 0)⟩,
    ⟨some 94, none, .mv (.tmp 2)⟩,
    ⟨some 95, none, .iaS 1 (.tmp 93) (.tmp 94)⟩,
    ⟨some 96, none, .ld none (.tmp 95)⟩,
    ⟨some 97, none, .mv (.tmp 0)⟩,
    ⟨some 98, none, .mv (.tmp 16)⟩,
    ⟨some 99, none, .iaS 1 (.tmp 97) (.tmp 98)⟩,
    ⟨some 100, none, .ld none (.tmp 99)⟩,
    ⟨some 101, none, .callv (.tmp 92) .pure [(.tmp 96), (.tmp 100)]⟩,
    ⟨some 102, none, .bin .lss (.tmp 101) (.val (.int .i64 0))⟩,
    ⟨some 103, none, .un .not (.tmp 102)⟩] [] [0, 2, 4, 14, 15, 16, 103])
  (.cond (.tmp 103)
  (.reg [⟨some 104, none, .mv (.tmp 16)⟩,
    ⟨some 105, none, .bin .add (.tmp 104) (.val (.int .i64 1))⟩,
    ⟨some 14, none, .mv (.tmp 105)⟩] [] [0, 2, 4, 14, 15])
  (.reg [⟨some 106, none, .mv (.tmp 16)⟩,
    ⟨some 15, none, .mv (.tmp 106)⟩] [] [0, 2, 4, 14, 15]))))))))
  (.seq
  (.seq
  (.reg [⟨some 107, none, .mv (.tmp 2)⟩,
    ⟨some 17, none, .mv (.tmp 107)⟩] [] [0, 14, 17])
  (.blk 6 (.loop (.seq
  (.seq
  (.reg [⟨some 108, none, .mv (.tmp 17)⟩,
    ⟨some 109, none, .mv (.tmp 14)⟩,
    ⟨some 110, none, .bin .gtr (.tmp 108) (.tmp 109)⟩] [] [0, 14, 17, 110])
  (.cond (.tmp 110)
  (.skip)
  (.ext 6)))
  (.seq
  (.blk 7 (.reg [⟨some 113, none, .mv (.tmp 0)⟩,
    ⟨some 114, none, .mv (.tmp 17)⟩,
    ⟨some 115, none, .mv (.tmp 0)⟩,
    ⟨some 116, none, .mv (.tmp 17)⟩,
    ⟨some 117, none, .bin .sub (.tmp 116) (.val (.int .i64 1))⟩,
    ⟨some 118, none, .mv (.tmp 0)⟩,
    ⟨some 119, none, .mv (.tmp 17)⟩,
    ⟨some 120, none, .bin .sub (.tmp 119) (.val (.int .i64 1))⟩,
    ⟨some 121, none, .iaS 1 (.tmp 118) (.tmp 120)⟩,
    ⟨some 122, none, .ld none (.tmp 121)⟩,
    ⟨some 123, none, .mv (.tmp 0)⟩,
    ⟨some 124, none, .mv (.tmp 17)⟩,
    ⟨some 125, none, .iaS 1 (.tmp 123) (.tmp 124)⟩,
    ⟨some 126, none, .ld none (.tmp 125)⟩,
    ⟨some 127, none, .iaS 1 (.tmp 113) (.tmp 114)⟩,
    ⟨none, none, .st 1 (.tmp 127) (.tmp 122)⟩,
    ⟨some 128, none, .iaS 1 (.tmp 115) (.tmp 117)⟩,
    ⟨none, none, .st 1 (.tmp 128) (.tmp 126)⟩] [] [0, 14, 17]))
  (.reg [⟨some 111, none, .mv (.tmp 17)⟩,
    ⟨some 112, none, .bin .sub (.tmp 111) (.val (.int .i64 1))⟩,
    ⟨some 17, none, .mv (.tmp 112)⟩] [] [0, 14, 17]))))))
  (.ret)))))
  (.skip)))
  (.seq
  (.reg [⟨some 129, none, .mv (.tmp 1)⟩,
    ⟨some 130, none, .mv (.tmp 3)⟩,
    ⟨some 131, none, .bin .add (.tmp 129) (.tmp 130)⟩,
    ⟨some 132, none, .conv .u64 (.tmp 131)⟩,
    ⟨some 133, none, .bin .shr (.tmp 132) (.val (.int .u64 1))⟩,
    ⟨some 134, none, .conv .i64 (.tmp 133)⟩,
    ⟨some 18, none, .mv (.tmp 134)⟩] [] [0, 1, 2, 3, 4, 18])
  (.seq
  (.reg [⟨some 135, none, .mv (.tmp 18)⟩,
    ⟨some 136, none, .mv (.tmp 2)⟩,
    ⟨some 137, none, .bin .add (.tmp 135) (.tmp 136)⟩,
    ⟨some 19, none, .mv (.tmp 137)⟩] [] [0, 1, 2, 3, 4, 18, 19])
  (.seq
  (.reg [⟨some 20, none, .mv (.val (.int .i64 0))⟩,
    ⟨some 21, none, .mv (.val (.int .i64 0))⟩] [] [0, 1, 2, 3, 4, 18, 19])
  (.seq
  (.seq
  (.reg [⟨some 138, none, .mv (.tmp 2)⟩,
    ⟨some 139, none, .mv (.tmp 18)⟩,
    ⟨some 140, none, .bin .gtr (.tmp 138) (.tmp 139)⟩] [] [0, 1, 2, 3, 4, 18, 19, 140])
  (.cond (.tmp 140)
  (.seq
  (.reg [⟨some 141, none, .mv (.tmp 19)⟩,
    ⟨some 142, none, .mv (.tmp 3)⟩,
    ⟨some 143, none, .bin .sub (.tmp 141) (.tmp 142)⟩,
    ⟨some 20, none, .mv (.tmp 143)⟩] [] [0, 1, 2, 3, 4, 18, 19, 20])
  (.reg [⟨some 144, none, .mv (.tmp 18)⟩,
    ⟨some 21, none, .mv (.tmp 144)⟩] [] [0, 1, 2, 3, 4, 18, 19, 20, 21]))
  (.seq
  (.reg [⟨some 145, none, .mv (.tmp 1)⟩,
    ⟨some 20, none, .mv (.tmp 145)⟩] [] [0, 1, 2, 3, 4, 18, 19, 20])
  (.reg [⟨some 146, none, .mv (.tmp 2)⟩,
    ⟨some 21, none, .mv (.tmp 146)⟩] [] [0, 1, 2, 3, 4, 18, 19, 20, 21]))))
  (.seq
  (.reg [⟨some 147, none, .mv (.tmp 19)⟩,
    ⟨some 148, none, .bin .sub (.tmp 147) (.val (.int .i64 1))⟩,
    ⟨some 22, none, .mv (.tmp 148)⟩] [] [0, 1, 2, 3, 4, 18, 19, 20, 21, 22])
  (.seq
  (.blk 8 (.loop (.seq
  (.seq
  (.reg [⟨some 149, none, .mv (.tmp 20)⟩,
    ⟨some 150, none, .mv (.tmp 21)⟩,
    ⟨some 151, none, .bin .lss (.tmp 149) (.tmp 150)⟩] [] [0, 1, 2, 3, 4, 18, 19, 20, 21, 22, 151])
  (.cond (.tmp 151)
  (.skip)
  (.ext 8)))
  (.blk 9 (.seq
  (.reg [⟨some 152, none, .mv (.tmp 20)⟩,
    ⟨some 153, none, .mv (.tmp 21)⟩,
    ⟨some 154, none, .bin .add (.tmp 152) (.tmp 153)⟩,
    ⟨some 155, none, .conv .u64 (.tmp 154)⟩,
    ⟨some 156, none, .bin .shr (.tmp 155) (.val (.int .u64 1))⟩,
    ⟨some 157, none, .conv .i64 (.tmp 156)⟩,
    ⟨some 23, none, .mv (.tmp 157)⟩] [] [0, 1, 2, 3, 4, 18, 19, 20, 21, 22, 23])
  (.seq
  (.reg [⟨some 158, none, .mv (.tmp 4)⟩,
    ⟨some 159, none, .mv (.tmp 0)⟩,
    ⟨some 160, none, .mv (.tmp 22)⟩,
    ⟨some 161, none, .mv (.tmp 23)⟩,
    ⟨some 162, none, .bin .sub (.tmp 160) (.tmp 161)⟩,
    ⟨some 163, none, .iaS 1 (.tmp 159) (.tmp 162)⟩,
    ⟨some 164, none, .ld none (.tmp 163)⟩,
    ⟨some 165, none, .mv (.tmp 0)⟩,
    ⟨some 166, none, .mv (.tmp 23)⟩,
    ⟨some 167, none, .iaS 1 (.tmp 165) (.tmp 166)⟩,
    ⟨some 168, none, .ld none (.tmp 167)⟩,
    ⟨some 169, none, .callv (.tmp 158) .pure [(.tmp 164), (.tmp 168)]⟩,
    ⟨some 170, none, .bin .lss (.tmp 169) (.val (.int .i64 0))⟩,
    ⟨some 171, none, .un .not (.tmp 170)⟩] [] [0, 1, 2, 3, 4, 18, 19, 20, 21, 22, 23, 171])
  (.cond (.tmp 171)
  (.reg [⟨some 172, none, .mv (.tmp 23)⟩,
    ⟨some 173, none, .bin .add (.tmp 172) (.val (.int .i64 1))⟩,
    ⟨some 20, none, .mv (.tmp 173)⟩] [] [0, 1, 2, 3, 4, 18, 19, 20, 21, 22])
  (.reg [⟨some 174, none, .mv (.tmp 23)⟩,
    ⟨some 21, none, .mv (.tmp 174)⟩] [] [0, 1, 2, 3, 4, 18, 19, 20, 21, 22]))))))))
  (.seq
  (.reg [⟨some 175, none, .mv (.tmp 19)⟩,
    ⟨some 176, none, .mv (.tmp 20)⟩,
    ⟨some 177, none, .bin .sub (.tmp 175) (.tmp 176)⟩,
    ⟨some 24, none, .mv (.tmp 177)⟩] [] [0, 1, 2, 3, 4, 18, 20, 24])
  (.seq
  (.seq
  (.reg [⟨some 178, none, .mv (.tmp 20)⟩,
    ⟨some 179, none, .mv (.tmp 2)⟩,
    ⟨some 180, none, .bin .lss (.tmp 178) (.tmp 179)⟩,
    ⟨some 181, none, .mv (.tmp 180)⟩,
    ⟨some 182, (some (181, true)), .mv (.tmp 2)⟩,
    ⟨some 183, (some (181, true)), .mv (.tmp 24)⟩,
    ⟨some 184, (some (181, true)), .bin .lss (.tmp 182) (.tmp 183)⟩,
    ⟨some 185, none, .pick (.tmp 181) (.tmp 184) (.val (.bool false))⟩] [] [0, 1, 2, 3, 4, 18, 20, 24, 185])
  (.cond (.tmp 185)
  (.reg [⟨some 186, none, .mv (.tmp 0)⟩,
    ⟨some 187, none, .mv (.tmp 20)⟩,
    ⟨some 188, none, .mv (.tmp 2)⟩,
    ⟨some 189, none, .mv (.tmp 24)⟩,
    ⟨some 190, none, .mv (.tmp 4)⟩,
    ⟨some 191, none, .call 40 .opn [(.tmp 186), (.tmp 187), (.tmp 188), (.tmp 189), (.tmp 190)]⟩] [] [0, 1, 3, 4, 18, 20, 24])
  (.skip)))
  (.seq
  (.seq
  (.reg [⟨some 192, none, .mv (.tmp 1)⟩,
    ⟨some 193, none, .mv (.tmp 20)⟩,
    ⟨some 194, none, .bin .lss (.tmp 192) (.tmp 193)⟩,
    ⟨some 195, none, .mv (.tmp 194)⟩,
    ⟨some 196, (some (195, true)), .mv (.tmp 20)⟩,
    ⟨some 197, (some (195, true)), .mv (.tmp 18)⟩,
    ⟨some 198, (some (195, true)), .bin .lss (.tmp 196) (.tmp 197)⟩,
    ⟨some 199, none, .pick (.tmp 195) (.tmp 198) (.val (.bool false))⟩] [] [0, 1, 3, 4, 18, 20, 24, 199])
  (.cond (.tmp 199)
  (.reg [⟨some 200, none, .mv (.tmp 0)⟩,
    ⟨some 201, none, .mv (.tmp 1)⟩,
    ⟨some 202, none, .mv (.tmp 20)⟩,
    ⟨some 203, none, .mv (.tmp 18)⟩,
    ⟨some 204, none, .mv (.tmp 4)⟩,
    ⟨some 205, none, .call 38 .opn [(.tmp 200), (.tmp 201), (.tmp 202), (.tmp 203), (.tmp 204)]⟩] [] [0, 3, 4, 18, 24])
  (.skip)))
  (.seq
  (.reg [⟨some 206, none, .mv (.tmp 18)⟩,
    ⟨some 207, none, .mv (.tmp 24)⟩,
    ⟨some 208, none, .bin .lss (.tmp 206) (.tmp 207)⟩,
    ⟨some 209, none, .mv (.tmp 208)⟩,
    ⟨some 210, (some (209, true)), .mv (.tmp 24)⟩,
    ⟨some 211, (some (209, true)), .mv (.tmp 3)⟩,
    ⟨some 212, (some (209, true)), .bin .lss (.tmp 210) (.tmp 211)⟩,
    ⟨some 213, none, .pick (.tmp 209) (.tmp 212) (.val (.bool false))⟩] [] [0, 3, 4, 18, 24, 213])
  (.cond (.tmp 213)
  (.reg [⟨some 214, none, .mv (.tmp 0)⟩,
    ⟨some 215, none, .mv (.tmp 18)⟩,
    ⟨some 216, none, .mv (.tmp 24)⟩,
    ⟨some 217, none, .mv (.tmp 3)⟩,
    ⟨some 218, none, .mv (.tmp 4)⟩,
    ⟨some 219, none, .call 38 .opn [(.tmp 214), (.tmp 215), (.tmp 216), (.tmp 217), (.tmp 218)]⟩] [] [])
  (.skip)))))))))))))⟩
theorem pf38_ok : fnOk Try.prog 38 pf38 = true := by kernel_rfl

/-- slices.insertionSortCmpFunc[int] -/
def pf37 : PFn := ⟨53, 4, [], .seq
  (.reg [⟨some 10, none, .mv (.tmp 1)⟩,
    ⟨some 11, none, .bin .add (.tmp 10) (.val (.int .i64 1))⟩,
    ⟨some 8, none, .mv (.tmp 11)⟩] [] [0, 1, 2, 3, 8])
  (.blk 0 (.loop (.seq
  (.seq
  (.reg [⟨some 12, none, .mv (.tmp 8)⟩,
    ⟨some 13, none, .mv (.tmp 2)⟩,
    ⟨some 14, none, .bin .lss (.tmp 12) (.tmp 13)⟩] [] [0, 1, 2, 3, 8, 14])
  (.cond (.tmp 14)
  (.skip)
  (.ext 0)))
  (.seq
  (.blk 1 (.seq
  (.reg [⟨some 17, none, .mv (.tmp 8)⟩,
    ⟨some 9, none, .mv (.tmp 17)⟩] [] [0, 1, 2, 3, 8, 9])
  (.blk 2 (.loop (.seq
  (.seq
  (.reg [⟨some 18, none, .mv (.tmp 9)⟩,
    ⟨some 19, none, .mv (.tmp 1)⟩,
    ⟨some 20, none, .bin .gtr (.tmp 18) (.tmp 19)⟩,
    ⟨some 21, none, .mv (.tmp 20)⟩,
    ⟨some 22, (some (21, true)), .mv (.tmp 3)⟩,
    ⟨some 23, (some (21, true)), .mv (.tmp 0)⟩,
    ⟨some 24, (some (21, true)), .mv (.tmp 9)⟩,
    ⟨some 25, (some (21, true)), .iaS 1 (.tmp 23) (.tmp 24)⟩,
    ⟨some 26, (some (21, true)), .ld none (.tmp 25)⟩,
    ⟨some 27, (some (21, true)), .mv (.tmp 0)⟩,
    ⟨some 28, (some (21, true)), .mv (.tmp 9)⟩,
    ⟨some 29, (some (21, true)), .bin .sub (.tmp 28) (.val (.int .i64 1))⟩,
    ⟨some 30, (some (21, true)), .iaS 1 (.tmp 27) (.tmp 29)⟩,
    ⟨some 31, (some (21, true)), .ld none (.tmp 30)⟩,
    ⟨some 32, (some (21, true)), .callv (.tmp 22) .pure [(.tmp 26), (.tmp 31)]⟩,
    ⟨some 33, (some (21, true)), .bin .lss (.tmp 32) (.val (.int .i64 0))⟩,
    ⟨some 34, none, .pick (.tmp 21) (.tmp 33) (.val (.bool false))⟩] [] [0, 1, 2, 3, 8, 9, 34])
  (.cond (.tmp 34)
  (.skip)
  (.ext 2)))
  (.seq
  (.blk 3 (.reg [⟨some 37, none, .mv (.tmp 0)⟩,
    ⟨some 38, none, .mv (.tmp 9)⟩,
    ⟨some 39, none, .mv (.tmp 0)⟩,
    ⟨some 40, none, .mv (.tmp 9)⟩,
    ⟨some 41, none, .bin .sub (.tmp 40) (.val (.int .i64 1))⟩,
    ⟨some 42, none, .mv (.tmp 0)⟩,
    ⟨some 43, none, .mv (.tmp 9)⟩,
    ⟨some 44, none, .bin .sub (.tmp 43) (.val (.int .i64 1))⟩,
    ⟨some 45, none, .iaS 1 (.tmp 42) (.tmp 44)⟩,
    ⟨some 46, none, .ld none (.tmp 45)⟩,
    ⟨some 47, none, .mv (.tmp 0)⟩,
    ⟨some 48, none, .mv (.tmp 9)⟩,
    ⟨some 49, none, .iaS 1 (.tmp 47) (.tmp 48)⟩,
    ⟨some 50, none, .ld none (.tmp 49)⟩,
    ⟨some 51, none, .iaS 1 (.tmp 37) (.tmp 38)⟩,
    ⟨none, none, .st 1 (.tmp 51) (.tmp 46)⟩,
    ⟨some 52, none, .iaS 1 (.tmp 39) (.tmp 41)⟩,
    ⟨none, none, .st 1 (.tmp 52) (.tmp 50)⟩] [] [0, 1, 2, 3, 8, 9]))
  (.reg [⟨some 35, none, .mv (.tmp 9)⟩,
    ⟨some 36, none, .bin .sub (.tmp 35) (.val (.int .i64 1))⟩,
    ⟨some 9, none, .mv (.tmp 36)⟩] [] [0, 1, 2, 3, 8, 9])))))))
  (.reg [⟨some 15, none, .mv (.tmp 8)⟩,
    ⟨some 16, none, .bin .add (.tmp 15) (.val (.int .i64 1))⟩,
    ⟨some 8, none, .mv (.tmp 16)⟩] [] [0, 1, 2, 3, 8])))))⟩
theorem pf37_ok : fnOk Try.prog 37 pf37 = true := by kernel_rfl

/-- slices.stableCmpFunc[int] -/
def pf34 : PFn := ⟨63, 3, [], .seq
  (.reg [⟨some 6, none, .mv (.val (.int .i64 20))⟩] [] [0, 1, 2, 6])
  (.seq
  (.reg [⟨some 10, none, .mv (.tmp 6)⟩,
    ⟨some 7, none, .mv (.val (.int .i64 0))⟩,
    ⟨some 8, none, .mv (.tmp 10)⟩] [] [0, 1, 2, 6, 7, 8])
  (.seq
  (.blk 0 (.loop (.seq
  (.seq
  (.reg [⟨some 11, none, .mv (.tmp 8)⟩,
    ⟨some 12, none, .mv (.tmp 1)⟩,
    ⟨some 13, none, .bin .leq (.tmp 11) (.tmp 12)⟩] [] [0, 1, 2, 6, 7, 8, 13])
  (.cond (.tmp 13)
  (.skip)
  (.ext 0)))
  (.blk 1 (.seq
  (.reg [⟨some 14, none, .mv (.tmp 0)⟩,
    ⟨some 15, none, .mv (.tmp 7)⟩,
    ⟨some 16, none, .mv (.tmp 8)⟩,
    ⟨some 17, none, .mv (.tmp 2)⟩,
    ⟨some 18, none, .call 37 .opn [(.tmp 14), (.tmp 15), (.tmp 16), (.tmp 17)]⟩] [] [0, 1, 2, 6, 8])
  (.seq
  (.reg [⟨some 19, none, .mv (.tmp 8)⟩,
    ⟨some 7, none, .mv (.tmp 19)⟩] [] [0, 1, 2, 6, 7, 8])
  (.reg [⟨some 20, none, .mv (.tmp 8)⟩,
    ⟨some 21, none, .mv (.tmp 6)⟩,
    ⟨some 22, none, .bin .add (.tmp 20) (.tmp 21)⟩,
    ⟨some 8, none, .mv (.tmp 22)⟩] [] [0, 1, 2, 6, 7, 8])))))))
  (.seq
  (.reg [⟨some 23, none, .mv (.tmp 0)⟩,
    ⟨some 24, none, .mv (.tmp 7)⟩,
    ⟨some 25, none, .mv (.tmp 1)⟩,
    ⟨some 26, none, .mv (.tmp 2)⟩,
    ⟨some 27, none, .call 37 .opn [(.tmp 23), (.tmp 24), (.tmp 25), (.tmp 26)]⟩] [] [0, 1, 2, 6])
  (.blk 2 (.loop (.seq
  (.seq
  (.reg [⟨some 28, none, .mv (.tmp 6)⟩,
    ⟨some 29, none, .mv (.tmp 1)⟩,
    ⟨some 30, none, .bin .lss (.tmp 28) (.tmp 29)⟩] [] [0, 1, 2, 6, 30])
  (.cond (.tmp 30)
  (.skip)
  (.ext 2)))
  (.blk 3 (.seq
  (.reg [⟨some 31, none, .mv (.tmp 6)⟩,
    ⟨some 32, none, .bin .mul (.val (.int .i64 2)) (.tmp 31)⟩,
    ⟨some 7, none, .mv (.val (.int .i64 0))⟩,
    ⟨some 8, none, .mv (.tmp 32)⟩] [] [0, 1, 2, 6, 7, 8])
  (.seq
  (.blk 4 (.loop (.seq
  (.seq
  (.reg [⟨some 33, none, .mv (.tmp 8)⟩,
    ⟨some 34, none, .mv (.tmp 1)⟩,
    ⟨some 35, none, .bin .leq (.tmp 33) (.tmp 34)⟩] [] [0, 1, 2, 6, 7, 8, 35])
  (.cond (.tmp 35)
  (.skip)
  (.ext 4)))
  (.blk 5 (.seq
  (.reg [⟨some 36, none, .mv (.tmp 0)⟩,
    ⟨some 37, none, .mv (.tmp 7)⟩,
    ⟨some 38, none, .mv (.tmp 7)⟩,
    ⟨some 39, none, .mv (.tmp 6)⟩,
    ⟨some 40, none, .bin .add (.tmp 38) (.tmp 39)⟩,
    ⟨some 41, none, .mv (.tmp 8)⟩,
    ⟨some 42, none, .mv (.tmp 2)⟩,
    ⟨some 43, none, .call 38 .opn [(.tmp 36), (.tmp 37), (.tmp 40), (.tmp 41), (.tmp 42)]⟩] [] [0, 1, 2, 6, 8])
  (.seq
  (.reg [⟨some 44, none, .mv (.tmp 8)⟩,
    ⟨some 7, none, .mv (.tmp 44)⟩] [] [0, 1, 2, 6, 7, 8])
  (.reg [⟨some 45, none, .mv (.tmp 8)⟩,
    ⟨some 46, none, .mv (.tmp 6)⟩,
    ⟨some 47, none, .bin .mul (.val (.int .i64 2)) (.tmp 46)⟩,
    ⟨some 48, none, .bin .add (.tmp 45) (.tmp 47)⟩,
    ⟨some 8, none, .mv (.tmp 48)⟩] [] [0, 1, 2, 6, 7, 8])))))))
  (.seq
  (.seq
  (.reg [⟨some 49, none, .mv (.tmp 7)⟩,
    ⟨some 50, none, .mv (.tmp 6)⟩,
    ⟨some 51, none, .bin .add (.tmp 49) (.tmp 50)⟩,
    ⟨some 9, none, .mv (.tmp 51)⟩] [] [0, 1, 2, 6, 7, 9])
  (.seq
  (.reg [⟨some 52, none, .mv (.tmp 9)⟩,
    ⟨some 53, none, .mv (.tmp 1)⟩,
    ⟨some 54, none, .bin .lss (.tmp 52) (.tmp 53)⟩] [] [0, 1, 2, 6, 7, 9, 54])
  (.cond (.tmp 54)
  (.reg [⟨some 55, none, .mv (.tmp 0)⟩,
    ⟨some 56, none, .mv (.tmp 7)⟩,
    ⟨some 57, none, .mv (.tmp 9)⟩,
    ⟨some 58, none, .mv (.tmp 1)⟩,
    ⟨some 59, none, .mv (.tmp 2)⟩,
    ⟨some 60, none, .call 38 .opn [(.tmp 55), (.tmp 56), (.tmp 57), (.tmp 58), (.tmp 59)]⟩] [] [0, 1, 2, 6])
  (.skip))))
  (.reg [⟨some 61, none, .mv (.tmp 6)⟩,
    ⟨some 62, none, .bin .mul (.tmp 61) (.val (.int .i64 2))⟩,
    ⟨some 6, none, .mv (.tmp 62)⟩] [] [0, 1, 2, 6])))))))))))⟩
theorem pf34_ok : fnOk Try.prog 34 pf34 = true := by kernel_rfl

/-- slices.SortStableFunc[[]int,int] -/
def pf28 : PFn := ⟨9, 2, [], .reg [⟨some 4, none, .mv (.tmp 0)⟩,
    ⟨some 5, none, .mv (.tmp 0)⟩,
    ⟨some 6, none, .len (.tmp 5)⟩,
    ⟨some 7, none, .mv (.tmp 1)⟩,
    ⟨some 8, none, .call 34 .opn [(.tmp 4), (.tmp 6), (.tmp 7)]⟩] [] []⟩
theorem pf28_ok : fnOk Try.prog 28 pf28 = true := by kernel_rfl

/-- hinterland/flow.rest_1 -/
def pf29 : PFn := ⟨15, 3, [.tmp 5], .seq
  (.reg [⟨some 5, none, .mv (.val (.int .i64 0))⟩] [] [0, 1, 2])
  (.seq
  (.reg [⟨some 6, none, .ld none (.tmp 2)⟩,
    ⟨some 7, none, .mv (.tmp 1)⟩,
    ⟨some 8, none, .iaS 1 (.tmp 6) (.tmp 7)⟩,
    ⟨some 9, none, .ld none (.tmp 8)⟩,
    ⟨some 10, none, .ld none (.tmp 2)⟩,
    ⟨some 11, none, .mv (.tmp 0)⟩,
    ⟨some 12, none, .iaS 1 (.tmp 10) (.tmp 11)⟩,
    ⟨some 13, none, .ld none (.tmp 12)⟩,
    ⟨some 14, none, .call 30 .pure [(.tmp 9), (.tmp 13)]⟩,
    ⟨some 5, none, .mv (.tmp 14)⟩] [] [5])
  (.ret))⟩
theorem pf29_ok : fnOk Try.prog 29 pf29 = true := by kernel_rfl

/-- hinterland/flow.rest -/
def pf20 : PFn := ⟨51, 4, [], .seq
  (.reg [⟨some 4, none, .boxp 22 (.tmp 0)⟩] [] [1, 2, 3, 4])
  (.seq
  (.reg [⟨some 8, none, .nacc 3 1⟩] [] [1, 2, 3, 4, 8])
  (.seq
  (.seq
  (.reg [⟨some 12, none, .ld none (.tmp 4)⟩,
    ⟨some 13, none, .len (.tmp 12)⟩,
    ⟨some 14, none, .mv (.val (.int .i64 0))⟩] [] [1, 2, 3, 4, 8, 12, 13, 14])
  (.blk 0 (.loop (.seq
  (.reg [⟨some 15, none, .bin .lss (.tmp 14) (.tmp 13)⟩] [] [1, 2, 3, 4, 8, 12, 13, 14, 15])
  (.seq
  (.cond (.tmp 15)
  (.skip)
  (.ext 0))
  (.seq
  (.blk 1 (.seq
  (.reg [⟨some 16, none, .mv (.tmp 14)⟩,
    ⟨some 17, none, .iaS 1 (.tmp 12) (.tmp 14)⟩,
    ⟨some 18, none, .ld none (.tmp 17)⟩,
    ⟨some 9, none, .mv (.tmp 16)⟩,
    ⟨some 10, none, .mv (.tmp 18)⟩] [] [1, 2, 3, 4, 8, 9, 10, 12, 13, 14])
  (.seq
  (.reg [⟨some 19, none, .mv (.tmp 9)⟩,
    ⟨some 20, none, .mv (.tmp 2)⟩,
    ⟨some 21, none, .bin .neq (.tmp 19) (.tmp 20)⟩,
    ⟨some 22, none, .mv (.tmp 21)⟩,
    ⟨some 23, (some (22, true)), .mv (.tmp 10)⟩,
    ⟨some 24, (some (22, true)), .bin .gtr (.tmp 23) (.val (.int .i64 0))⟩,
    ⟨some 25, none, .pick (.tmp 22) (.tmp 24) (.val (.bool false))⟩] [] [1, 2, 3, 4, 8, 9, 12, 13, 14, 25])
  (.cond (.tmp 25)
  (.reg [⟨some 26, none, .mv (.tmp 8)⟩,
    ⟨some 27, none, .mv (.tmp 9)⟩,
    ⟨some 28, none, .bsl 1 1 [(.int .i64 0)] [(0, 1, (.tmp 27))]⟩,
    ⟨some 29, none, .app 3 1 8 (.tmp 26) (.tmp 28)⟩,
    ⟨some 8, none, .mv (.tmp 29)⟩] [] [1, 2, 3, 4, 8, 12, 13, 14])
  (.skip)))))
  (.reg [⟨some 30, none, .bin .add (.tmp 14) (.val (.int .i64 1))⟩,
    ⟨some 14, none, .mv (.tmp 30)⟩] [] [1, 2, 3, 4, 8, 12, 13, 14])))))))
  (.seq
  (.reg [⟨some 31, none, .mv (.tmp 8)⟩,
    ⟨some 32, none, .mkf (.func 29) [] [(.tmp 4)]⟩,
    ⟨some 33, none, .call 28 .opn [(.tmp 31), (.tmp 32)]⟩] [] [1, 3, 8])
  (.seq
  (.reg [⟨some 34, none, .mv (.tmp 3)⟩,
    ⟨some 35, none, .mv (.tmp 8)⟩,
    ⟨some 36, none, .len (.tmp 35)⟩,
    ⟨some 37, none, .mn (.tmp 34) [(.tmp 36)]⟩,
    ⟨some 38, none, .mv (.val (.int .i64 0))⟩] [] [1, 8, 37, 38])
  (.blk 2 (.loop (.seq
  (.reg [⟨some 39, none, .bin .lss (.tmp 38) (.tmp 37)⟩] [] [1, 8, 37, 38, 39])
  (.seq
  (.cond (.tmp 39)
  (.skip)
  (.ext 2))
  (.seq
  (.blk 3 (.seq
  (.reg [⟨some 40, none, .mv (.tmp 38)⟩,
    ⟨some 11, none, .mv (.tmp 40)⟩] [] [1, 8, 11, 37, 38])
  (.reg [⟨some 41, none, .mv (.tmp 1)⟩,
    ⟨some 42, none, .mv (.tmp 8)⟩,
    ⟨some 43, none, .mv (.tmp 11)⟩,
    ⟨some 44, none, .iaS 1 (.tmp 42) (.tmp 43)⟩,
    ⟨some 45, none, .ld none (.tmp 44)⟩,
    ⟨some 46, none, .iaS 1 (.tmp 41) (.tmp 45)⟩,
    ⟨some 47, none, .ld none (.tmp 46)⟩,
    ⟨some 48, none, .bin .add (.tmp 47) (.val (.int .i64 1))⟩,
    ⟨some 49, none, .iaS 1 (.tmp 41) (.tmp 45)⟩,
    ⟨none, none, .st 1 (.tmp 49) (.tmp 48)⟩] [] [1, 8, 37, 38])))
  (.reg [⟨some 50, none, .bin .add (.tmp 38) (.val (.int .i64 1))⟩,
    ⟨some 38, none, .mv (.tmp 50)⟩] [] [1, 8, 37, 38]))))))))))⟩
theorem pf20_ok : fnOk Try.prog 20 pf20 = true := by kernel_rfl

/-- hinterland/flow.Demand -/
def pf9 : PFn := ⟨95, 1, [.tmp 2, .tmp 3], .seq
  (.reg [⟨some 2, none, .mv (.val (.list .nil 1 []))⟩,
    ⟨some 3, none, .mv (.val (.int .i64 0))⟩] [] [0])
  (.seq
  (.seq
  (.reg [⟨some 14, none, .mv (.tmp 0)⟩,
    ⟨some 15, none, .len (.tmp 14)⟩,
    ⟨some 16, none, .bin .gtr (.tmp 15) (.val (.int .i64 40))⟩] [] [0, 16])
  (.cond (.tmp 16)
  (.seq
  (.reg [⟨some 2, none, .mv (.val (.list .nil 1 []))⟩,
    ⟨some 3, none, .mv (.val (.int .i64 4))⟩] [] [2, 3])
  (.ret))
  (.skip)))
  (.seq
  (.reg [⟨some 4, none, .mv (.val (.int .i64 0))⟩] [] [0, 4])
  (.seq
  (.seq
  (.reg [⟨some 17, none, .mv (.tmp 0)⟩,
    ⟨some 18, none, .len (.tmp 17)⟩,
    ⟨some 19, none, .mv (.val (.int .i64 0))⟩] [] [0, 4, 17, 18, 19])
  (.blk 0 (.loop (.seq
  (.reg [⟨some 20, none, .bin .lss (.tmp 19) (.tmp 18)⟩] [] [0, 4, 17, 18, 19, 20])
  (.seq
  (.cond (.tmp 20)
  (.skip)
  (.ext 0))
  (.seq
  (.blk 1 (.seq
  (.reg [⟨some 21, none, .iaS 1 (.tmp 17) (.tmp 19)⟩,
    ⟨some 22, none, .ld none (.tmp 21)⟩,
    ⟨some 6, none, .mv (.tmp 22)⟩] [] [0, 4, 6, 17, 18, 19])
  (.seq
  (.seq
  (.reg [⟨some 23, none, .mv (.tmp 6)⟩,
    ⟨some 24, none, .call 19 .pure [(.tmp 23), (.val (.int .i64 1000000))]⟩,
    ⟨some 25, none, .un .not (.tmp 24)⟩] [] [0, 4, 6, 17, 18, 19, 25])
  (.cond (.tmp 25)
  (.seq
  (.reg [⟨some 2, none, .mv (.val (.list .nil 1 []))⟩,
    ⟨some 3, none, .mv (.val (.int .i64 1))⟩] [] [2, 3])
  (.ret))
  (.skip)))
  (.reg [⟨some 26, none, .mv (.tmp 4)⟩,
    ⟨some 27, none, .mv (.tmp 6)⟩,
    ⟨some 28, none, .bin .add (.tmp 26) (.tmp 27)⟩,
    ⟨some 4, none, .mv (.tmp 28)⟩] [] [0, 4, 17, 18, 19]))))
  (.reg [⟨some 29, none, .bin .add (.tmp 19) (.val (.int .i64 1))⟩,
    ⟨some 19, none, .mv (.tmp 29)⟩] [] [0, 4, 17, 18, 19])))))))
  (.seq
  (.reg [⟨some 30, none, .mv (.tmp 0)⟩,
    ⟨some 31, none, .len (.tmp 30)⟩,
    ⟨some 32, none, .mks 22 1 24 [(.list .nil 1 [])] (.tmp 31) (.tmp 31)⟩,
    ⟨some 7, none, .mv (.tmp 32)⟩] [] [0, 4, 7])
  (.seq
  (.seq
  (.reg [⟨some 33, none, .mv (.tmp 0)⟩,
    ⟨some 34, none, .len (.tmp 33)⟩,
    ⟨some 35, none, .mv (.val (.int .i64 0))⟩] [] [0, 4, 7, 33, 34, 35])
  (.blk 2 (.loop (.seq
  (.reg [⟨some 36, none, .bin .lss (.tmp 35) (.tmp 34)⟩] [] [0, 4, 7, 33, 34, 35, 36])
  (.seq
  (.cond (.tmp 36)
  (.skip)
  (.ext 2))
  (.seq
  (.blk 3 (.seq
  (.reg [⟨some 37, none, .mv (.tmp 35)⟩,
    ⟨some 38, none, .iaS 1 (.tmp 33) (.tmp 35)⟩,
    ⟨some 39, none, .ld none (.tmp 38)⟩,
    ⟨some 8, none, .mv (.tmp 37)⟩,
    ⟨some 9, none, .mv (.tmp 39)⟩] [] [0, 4, 7, 8, 9, 33, 34, 35])
  (.seq
  (.reg [⟨some 40, none, .mv (.tmp 7)⟩,
    ⟨some 41, none, .mv (.tmp 8)⟩,
    ⟨some 42, none, .mv (.tmp 0)⟩,
    ⟨some 43, none, .len (.tmp 42)⟩,
    ⟨some 44, none, .mks 3 1 8 [(.int .i64 0)] (.tmp 43) (.tmp 43)⟩,
    ⟨some 45, none, .iaS 1 (.tmp 40) (.tmp 41)⟩,
    ⟨none, none, .st 1 (.tmp 45) (.tmp 44)⟩] [] [0, 4, 7, 8, 9, 33, 34, 35])
  (.seq
  (.reg [⟨some 46, none, .mv (.tmp 4)⟩,
    ⟨some 47, none, .mv (.tmp 9)⟩,
    ⟨some 48, none, .bin .sub (.tmp 46) (.tmp 47)⟩,
    ⟨some 49, none, .mv (.tmp 9)⟩,
    ⟨some 10, none, .mv (.tmp 48)⟩,
    ⟨some 11, none, .mv (.tmp 49)⟩] [] [0, 4, 7, 8, 9, 10, 11, 33, 34, 35])
  (.seq
  (.seq
  (.reg [⟨some 50, none, .mv (.tmp 0)⟩,
    ⟨some 51, none, .len (.tmp 50)⟩,
    ⟨some 52, none, .mv (.val (.int .i64 0))⟩] [] [0, 4, 7, 8, 9, 10, 11, 33, 34, 35, 50, 51, 52])
  (.blk 4 (.loop (.seq
  (.reg [⟨some 53, none, .bin .lss (.tmp 52) (.tmp 51)⟩] [] [0, 4, 7, 8, 9, 10, 11, 33, 34, 35, 50, 51, 52, 53])
  (.seq
  (.cond (.tmp 53)
  (.skip)
  (.ext 4))
  (.seq
  (.blk 5 (.seq
  (.reg [⟨some 54, none, .mv (.tmp 52)⟩,
    ⟨some 55, none, .iaS 1 (.tmp 50) (.tmp 52)⟩,
    ⟨some 56, none, .ld none (.tmp 55)⟩,
    ⟨some 12, none, .mv (.tmp 54)⟩,
    ⟨some 13, none, .mv (.tmp 56)⟩] [] [0, 4, 7, 8, 9, 10, 11, 12, 13, 33, 34, 35, 50, 51, 52])
  (.seq
  (.reg [⟨some 57, none, .mv (.tmp 12)⟩,
    ⟨some 58, none, .mv (.tmp 8)⟩,
    ⟨some 59, none, .bin .neq (.tmp 57) (.tmp 58)⟩,
    ⟨some 60, none, .mv (.tmp 59)⟩,
    ⟨some 61, (some (60, true)), .mv (.tmp 10)⟩,
    ⟨some 62, (some (60, true)), .bin .gtr (.tmp 61) (.val (.int .i64 0))⟩,
    ⟨some 63, none, .pick (.tmp 60) (.tmp 62) (.val (.bool false))⟩] [] [0, 4, 7, 8, 9, 10, 11, 12, 13, 33, 34, 35, 50, 51, 52, 63])
  (.cond (.tmp 63)
  (.seq
  (.reg [⟨some 64, none, .mv (.tmp 7)⟩,
    ⟨some 65, none, .mv (.tmp 8)⟩,
    ⟨some 66, none, .iaS 1 (.tmp 64) (.tmp 65)⟩,
    ⟨some 67, none, .ld none (.tmp 66)⟩,
    ⟨some 68, none, .mv (.tmp 12)⟩,
    ⟨some 69, none, .mv (.tmp 9)⟩,
    ⟨some 70, none, .mv (.tmp 13)⟩,
    ⟨some 71, none, .bin .mul (.tmp 69) (.tmp 70)⟩,
    ⟨some 72, none, .mv (.tmp 10)⟩,
    ⟨some 73, none, .bin .quo (.tmp 71) (.tmp 72)⟩,
    ⟨some 74, none, .iaS 1 (.tmp 67) (.tmp 68)⟩,
    ⟨none, none, .st 1 (.tmp 74) (.tmp 73)⟩] [] [0, 4, 7, 8, 9, 10, 11, 12, 33, 34, 35, 50, 51, 52])
  (.reg [⟨some 75, none, .mv (.tmp 11)⟩,
    ⟨some 76, none, .mv (.tmp 7)⟩,
    ⟨some 77, none, .mv (.tmp 8)⟩,
    ⟨some 78, none, .iaS 1 (.tmp 76) (.tmp 77)⟩,
    ⟨some 79, none, .ld none (.tmp 78)⟩,
    ⟨some 80, none, .mv (.tmp 12)⟩,
    ⟨some 81, none, .iaS 1 (.tmp 79) (.tmp 80)⟩,
    ⟨some 82, none, .ld none (.tmp 81)⟩,
    ⟨some 83, none, .bin .sub (.tmp 75) (.tmp 82)⟩,
    ⟨some 11, none, .mv (.tmp 83)⟩] [] [0, 4, 7, 8, 9, 10, 11, 33, 34, 35, 50, 51, 52]))
  (.skip)))))
  (.reg [⟨some 84, none, .bin .add (.tmp 52) (.val (.int .i64 1))⟩,
    ⟨some 52, none, .mv (.tmp 84)⟩] [] [0, 4, 7, 8, 9, 10, 11, 33, 34, 35, 50, 51, 52])))))))
  (.reg [⟨some 85, none, .mv (.tmp 0)⟩,
    ⟨some 86, none, .mv (.tmp 7)⟩,
    ⟨some 87, none, .mv (.tmp 8)⟩,
    ⟨some 88, none, .iaS 1 (.tmp 86) (.tmp 87)⟩,
    ⟨some 89, none, .ld none (.tmp 88)⟩,
    ⟨some 90, none, .mv (.tmp 8)⟩,
    ⟨some 91, none, .mv (.tmp 11)⟩,
    ⟨some 92, none, .call 20 .opn [(.tmp 85), (.tmp 89), (.tmp 90), (.tmp 91)]⟩] [] [0, 4, 7, 33, 34, 35]))))))
  (.reg [⟨some 93, none, .bin .add (.tmp 35) (.val (.int .i64 1))⟩,
    ⟨some 35, none, .mv (.tmp 93)⟩] [] [0, 4, 7, 33, 34, 35])))))))
  (.seq
  (.reg [⟨some 94, none, .mv (.tmp 7)⟩,
    ⟨some 2, none, .mv (.tmp 94)⟩,
    ⟨some 3, none, .mv (.val (.int .i64 0))⟩] [] [2, 3])
  (.ret)))))))⟩
theorem pf9_ok : fnOk Try.prog 9 pf9 = true := by kernel_rfl

/-- hinterland/hinterlandsame.List[int] -/
def pf18 : PFn := ⟨26, 2, [.tmp 4], .seq
  (.reg [⟨some 4, none, .mv (.val (.bool false))⟩] [] [0, 1])
  (.seq
  (.seq
  (.reg [⟨some 6, none, .mv (.tmp 0)⟩,
    ⟨some 7, none, .len (.tmp 6)⟩,
    ⟨some 8, none, .mv (.tmp 1)⟩,
    ⟨some 9, none, .len (.tmp 8)⟩,
    ⟨some 10, none, .bin .neq (.tmp 7) (.tmp 9)⟩] [] [0, 1, 10])
  (.cond (.tmp 10)
  (.seq
  (.reg [⟨some 4, none, .mv (.val (.bool false))⟩] [] [4])
  (.ret))
  (.skip)))
  (.seq
  (.seq
  (.reg [⟨some 5, none, .mv (.val (.int .i64 0))⟩] [] [0, 1, 5])
  (.blk 0 (.loop (.seq
  (.seq
  (.reg [⟨some 11, none, .mv (.tmp 5)⟩,
    ⟨some 12, none, .mv (.tmp 0)⟩,
    ⟨some 13, none, .len (.tmp 12)⟩,
    ⟨some 14, none, .bin .lss (.tmp 11) (.tmp 13)⟩] [] [0, 1, 5, 14])
  (.cond (.tmp 14)
  (.skip)
  (.ext 0)))
  (.seq
  (.blk 1 (.seq
  (.reg [⟨some 17, none, .mv (.tmp 0)⟩,
    ⟨some 18, none, .mv (.tmp 5)⟩,
    ⟨some 19, none, .iaS 1 (.tmp 17) (.tmp 18)⟩,
    ⟨some 20, none, .ld none (.tmp 19)⟩,
    ⟨some 21, none, .mv (.tmp 1)⟩,
    ⟨some 22, none, .mv (.tmp 5)⟩,
    ⟨some 23, none, .iaS 1 (.tmp 21) (.tmp 22)⟩,
    ⟨some 24, none, .ld none (.tmp 23)⟩,
    ⟨some 25, none, .bin .neq (.tmp 20) (.tmp 24)⟩] [] [0, 1, 5, 25])
  (.cond (.tmp 25)
  (.seq
  (.reg [⟨some 4, none, .mv (.val (.bool false))⟩] [] [4])
  (.ret))
  (.skip))))
  (.reg [⟨some 15, none, .mv (.tmp 5)⟩,
    ⟨some 16, none, .bin .add (.tmp 15) (.val (.int .i64 1))⟩,
    ⟨some 5, none, .mv (.tmp 16)⟩] [] [0, 1, 5]))))))
  (.seq
  (.reg [⟨some 4, none, .mv (.val (.bool true))⟩] [] [4])
  (.ret))))⟩
theorem pf18_ok : fnOk Try.prog 18 pf18 = true := by kernel_rfl

/-- hinterland/hinterlandlaw13.known -/
def pf7 : PFn := ⟨22, 0, [.tmp 0], .seq
  (.reg [⟨some 0, none, .mv (.val (.bool false))⟩] [] [])
  (.seq
  (.reg [⟨some 4, none, .bsl 3 1 [(.int .i64 0)] [(0, 1, (.val (.int .i64 1))), (1, 1, (.val (.int .i64 1))), (2, 1, (.val (.int .i64 1)))]⟩,
    ⟨some 5, none, .call 9 .pure [(.tmp 4)]⟩,
    ⟨some 3, none, .mv (.tmp 5)⟩,
    ⟨some 6, none, .ext 0 (.tmp 3)⟩,
    ⟨some 7, none, .ext 1 (.tmp 3)⟩,
    ⟨some 1, none, .mv (.tmp 6)⟩,
    ⟨some 2, none, .mv (.tmp 7)⟩] [] [1, 2])
  (.seq
  (.reg [⟨some 8, none, .mv (.tmp 2)⟩,
    ⟨some 9, none, .bin .eql (.tmp 8) (.val (.int .i64 0))⟩,
    ⟨some 10, none, .mv (.tmp 9)⟩,
    ⟨some 11, (some (10, true)), .mv (.tmp 1)⟩,
    ⟨some 12, (some (10, true)), .len (.tmp 11)⟩,
    ⟨some 13, (some (10, true)), .bin .eql (.tmp 12) (.val (.int .i64 3))⟩,
    ⟨some 14, none, .pick (.tmp 10) (.tmp 13) (.val (.bool false))⟩,
    ⟨some 15, none, .mv (.tmp 14)⟩,
    ⟨some 16, (some (15, true)), .mv (.tmp 1)⟩,
    ⟨some 17, (some (15, true)), .iaS 1 (.tmp 16) (.val (.int .i64 0))⟩,
    ⟨some 18, (some (15, true)), .ld none (.tmp 17)⟩,
    ⟨some 19, (some (15, true)), .bsl 3 1 [(.int .i64 0)] [(0, 1, (.val (.int .i64 0))), (1, 1, (.val (.int .i64 1))), (2, 1, (.val (.int .i64 0)))]⟩,
    ⟨some 20, (some (15, true)), .call 18 .pure [(.tmp 18), (.tmp 19)]⟩,
    ⟨some 21, none, .pick (.tmp 15) (.tmp 20) (.val (.bool false))⟩,
    ⟨some 0, none, .mv (.tmp 21)⟩] [] [0])
  (.ret)))⟩
theorem pf7_ok : fnOk Try.prog 7 pf7 = true := by kernel_rfl

/-- hinterland/hinterlandsame.Tables[int] -/
def pf10 : PFn := ⟨27, 2, [.tmp 4], .seq
  (.reg [⟨some 4, none, .mv (.val (.bool false))⟩] [] [0, 1])
  (.seq
  (.seq
  (.reg [⟨some 6, none, .mv (.tmp 0)⟩,
    ⟨some 7, none, .len (.tmp 6)⟩,
    ⟨some 8, none, .mv (.tmp 1)⟩,
    ⟨some 9, none, .len (.tmp 8)⟩,
    ⟨some 10, none, .bin .neq (.tmp 7) (.tmp 9)⟩] [] [0, 1, 10])
  (.cond (.tmp 10)
  (.seq
  (.reg [⟨some 4, none, .mv (.val (.bool false))⟩] [] [4])
  (.ret))
  (.skip)))
  (.seq
  (.seq
  (.reg [⟨some 5, none, .mv (.val (.int .i64 0))⟩] [] [0, 1, 5])
  (.blk 0 (.loop (.seq
  (.seq
  (.reg [⟨some 11, none, .mv (.tmp 5)⟩,
    ⟨some 12, none, .mv (.tmp 0)⟩,
    ⟨some 13, none, .len (.tmp 12)⟩,
    ⟨some 14, none, .bin .lss (.tmp 11) (.tmp 13)⟩] [] [0, 1, 5, 14])
  (.cond (.tmp 14)
  (.skip)
  (.ext 0)))
  (.seq
  (.blk 1 (.seq
  (.reg [⟨some 17, none, .mv (.tmp 0)⟩,
    ⟨some 18, none, .mv (.tmp 5)⟩,
    ⟨some 19, none, .iaS 1 (.tmp 17) (.tmp 18)⟩,
    ⟨some 20, none, .ld none (.tmp 19)⟩,
    ⟨some 21, none, .mv (.tmp 1)⟩,
    ⟨some 22, none, .mv (.tmp 5)⟩,
    ⟨some 23, none, .iaS 1 (.tmp 21) (.tmp 22)⟩,
    ⟨some 24, none, .ld none (.tmp 23)⟩,
    ⟨some 25, none, .call 18 .pure [(.tmp 20), (.tmp 24)]⟩,
    ⟨some 26, none, .un .not (.tmp 25)⟩] [] [0, 1, 5, 26])
  (.cond (.tmp 26)
  (.seq
  (.reg [⟨some 4, none, .mv (.val (.bool false))⟩] [] [4])
  (.ret))
  (.skip))))
  (.reg [⟨some 15, none, .mv (.tmp 5)⟩,
    ⟨some 16, none, .bin .add (.tmp 15) (.val (.int .i64 1))⟩,
    ⟨some 5, none, .mv (.tmp 16)⟩] [] [0, 1, 5]))))))
  (.seq
  (.reg [⟨some 4, none, .mv (.val (.bool true))⟩] [] [4])
  (.ret))))⟩
theorem pf10_ok : fnOk Try.prog 10 pf10 = true := by kernel_rfl

/-- hinterland/hinterlandlaw13.far -/
def pf11 : PFn := ⟨47, 3, [.tmp 6], .seq
  (.reg [⟨some 6, none, .mv (.val (.bool false))⟩] [] [0, 1, 2])
  (.seq
  (.seq
  (.reg [⟨some 9, none, .mv (.tmp 0)⟩,
    ⟨some 10, none, .len (.tmp 9)⟩,
    ⟨some 11, none, .bin .gtr (.tmp 10) (.val (.int .i64 2000))⟩,
    ⟨some 12, none, .mv (.tmp 11)⟩,
    ⟨some 13, (some (12, false)), .mv (.tmp 1)⟩,
    ⟨some 14, (some (12, false)), .len (.tmp 13)⟩,
    ⟨some 15, (some (12, false)), .bin .gtr (.tmp 14) (.val (.int .i64 600))⟩,
    ⟨some 16, none, .pick (.tmp 12) (.val (.bool true)) (.tmp 15)⟩,
    ⟨some 17, none, .mv (.tmp 16)⟩,
    ⟨some 18, (some (17, false)), .mv (.tmp 2)⟩,
    ⟨some 19, (some (17, false)), .len (.tmp 18)⟩,
    ⟨some 20, (some (17, false)), .bin .gtr (.tmp 19) (.val (.int .i64 200))⟩,
    ⟨some 21, none, .pick (.tmp 17) (.val (.bool true)) (.tmp 20)⟩] [] [1, 2, 21])
  (.cond (.tmp 21)
  (.seq
  (.reg [⟨some 6, none, .mv (.val (.bool true))⟩] [] [6])
  (.ret))
  (.skip)))
  (.seq
  (.seq
  (.reg [⟨some 7, none, .mv (.val (.int .i64 0))⟩] [] [1, 2, 7])
  (.blk 0 (.loop (.seq
  (.seq
  (.reg [⟨some 22, none, .mv (.tmp 7)⟩,
    ⟨some 23, none, .mv (.tmp 1)⟩,
    ⟨some 24, none, .len (.tmp 23)⟩,
    ⟨some 25, none, .bin .lss (.tmp 22) (.tmp 24)⟩] [] [1, 2, 7, 25])
  (.cond (.tmp 25)
  (.skip)
  (.ext 0)))
  (.seq
  (.blk 1 (.seq
  (.reg [⟨some 28, none, .mv (.tmp 1)⟩,
    ⟨some 29, none, .mv (.tmp 7)⟩,
    ⟨some 30, none, .iaS 4 (.tmp 28) (.tmp 29)⟩,
    ⟨some 31, none, .faddr 2 (.tmp 30)⟩,
    ⟨some 32, none, .ld none (.tmp 31)⟩,
    ⟨some 33, none, .len (.tmp 32)⟩,
    ⟨some 34, none, .bin .gtr (.tmp 33) (.val (.int .i64 100))⟩] [] [1, 2, 7, 34])
  (.cond (.tmp 34)
  (.seq
  (.reg [⟨some 6, none, .mv (.val (.bool true))⟩] [] [6])
  (.ret))
  (.skip))))
  (.reg [⟨some 26, none, .mv (.tmp 7)⟩,
    ⟨some 27, none, .bin .add (.tmp 26) (.val (.int .i64 1))⟩,
    ⟨some 7, none, .mv (.tmp 27)⟩] [] [1, 2, 7]))))))
  (.seq
  (.seq
  (.reg [⟨some 8, none, .mv (.val (.int .i64 0))⟩] [] [2, 8])
  (.blk 2 (.loop (.seq
  (.seq
  (.reg [⟨some 35, none, .mv (.tmp 8)⟩,
    ⟨some 36, none, .mv (.tmp 2)⟩,
    ⟨some 37, none, .len (.tmp 36)⟩,
    ⟨some 38, none, .bin .lss (.tmp 35) (.tmp 37)⟩] [] [2, 8, 38])
  (.cond (.tmp 38)
  (.skip)
  (.ext 2)))
  (.seq
  (.blk 3 (.seq
  (.reg [⟨some 41, none, .mv (.tmp 2)⟩,
    ⟨some 42, none, .mv (.tmp 8)⟩,
    ⟨some 43, none, .iaS 1 (.tmp 41) (.tmp 42)⟩,
    ⟨some 44, none, .ld none (.tmp 43)⟩,
    ⟨some 45, none, .len (.tmp 44)⟩,
    ⟨some 46, none, .bin .gtr (.tmp 45) (.val (.int .i64 200))⟩] [] [2, 8, 46])
  (.cond (.tmp 46)
  (.seq
  (.reg [⟨some 6, none, .mv (.val (.bool true))⟩] [] [6])
  (.ret))
  (.skip))))
  (.reg [⟨some 39, none, .mv (.tmp 8)⟩,
    ⟨some 40, none, .bin .add (.tmp 39) (.val (.int .i64 1))⟩,
    ⟨some 8, none, .mv (.tmp 40)⟩] [] [2, 8]))))))
  (.seq
  (.reg [⟨some 6, none, .mv (.val (.bool false))⟩] [] [6])
  (.ret)))))⟩
theorem pf11_ok : fnOk Try.prog 11 pf11 = true := by kernel_rfl

/-- hinterland/hinterlandref13.less -/
def pf23 : PFn := ⟨20, 2, [.tmp 4], .seq
  (.reg [⟨some 2, none, .boxp 36 (.tmp 0)⟩,
    ⟨some 3, none, .boxp 36 (.tmp 1)⟩,
    ⟨some 4, none, .mv (.val (.bool false))⟩] [] [2, 3])
  (.seq
  (.seq
  (.reg [⟨some 5, none, .faddr 0 (.tmp 2)⟩,
    ⟨some 6, none, .ld none (.tmp 5)⟩,
    ⟨some 7, none, .faddr 0 (.tmp 3)⟩,
    ⟨some 8, none, .ld none (.tmp 7)⟩,
    ⟨some 9, none, .bin .neq (.tmp 6) (.tmp 8)⟩] [] [2, 3, 9])
  (.cond (.tmp 9)
  (.seq
  (.reg [⟨some 10, none, .faddr 0 (.tmp 2)⟩,
    ⟨some 11, none, .ld none (.tmp 10)⟩,
    ⟨some 12, none, .faddr 0 (.tmp 3)⟩,
    ⟨some 13, none, .ld none (.tmp 12)⟩,
    ⟨some 14, none, .bin .lss (.tmp 11) (.tmp 13)⟩,
    ⟨some 4, none, .mv (.tmp 14)⟩] [] [4])
  (.ret))
  (.skip)))
  (.seq
  (.reg [⟨some 15, none, .faddr 1 (.tmp 2)⟩,
    ⟨some 16, none, .ld none (.tmp 15)⟩,
    ⟨some 17, none, .faddr 1 (.tmp 3)⟩,
    ⟨some 18, none, .ld none (.tmp 17)⟩,
    ⟨some 19, none, .bin .lss (.tmp 16) (.tmp 18)⟩,
    ⟨some 4, none, .mv (.tmp 19)⟩] [] [4])
  (.ret)))⟩
theorem pf23_ok : fnOk Try.prog 23 pf23 = true := by kernel_rfl

/-- hinterland/hinterlandref13.Validate -/
def pf21 : PFn := ⟨89, 2, [.tmp 4], .seq
  (.reg [⟨some 4, none, .mv (.val (.int .i64 0))⟩] [] [0, 1])
  (.seq
  (.seq
  (.reg [⟨some 8, none, .mv (.tmp 0)⟩,
    ⟨some 9, none, .bin .gtr (.tmp 8) (.val (.int .i64 40))⟩] [] [0, 1, 9])
  (.cond (.tmp 9)
  (.seq
  (.reg [⟨some 4, none, .mv (.val (.int .i64 4))⟩] [] [4])
  (.ret))
  (.skip)))
  (.seq
  (.seq
  (.reg [⟨some 10, none, .mv (.tmp 0)⟩,
    ⟨some 11, none, .bin .lss (.tmp 10) (.val (.int .i64 0))⟩] [] [0, 1, 11])
  (.cond (.tmp 11)
  (.seq
  (.reg [⟨some 4, none, .mv (.val (.int .i64 1))⟩] [] [4])
  (.ret))
  (.skip)))
  (.seq
  (.seq
  (.reg [⟨some 5, none, .mv (.val (.int .i64 0))⟩] [] [0, 1, 5])
  (.blk 0 (.loop (.trim (.seq
  (.seq
  (.reg [⟨some 12, none, .mv (.tmp 5)⟩,
    ⟨some 13, none, .mv (.tmp 1)⟩,
    ⟨some 14, none, .len (.tmp 13)⟩,
    ⟨some 15, none, .bin .lss (.tmp 12) (.tmp 14)⟩] [] [0, 1, 5, 15])
  (.cond (.tmp 15)
  (.skip)
  (.ext 0)))
  (.seq
  (.blk 1 (.seq
  (.reg [⟨some 18, none, .mv (.tmp 1)⟩,
    ⟨some 19, none, .mv (.tmp 5)⟩,
    ⟨some 20, none, .iaS 3 (.tmp 18) (.tmp 19)⟩,
    ⟨some 21, none, .ld (some 3) (.tmp 20)⟩,
    ⟨some 6, none, .zer 36 (.agg [(.int .i64 0), (.int .i64 0), (.int .i64 0)])⟩,
    ⟨none, none, .st 3 (.tmp 6) (.tmp 21)⟩] [] [0, 1, 5, 6])
  (.seq
  (.reg [⟨some 22, none, .faddr 2 (.tmp 6)⟩,
    ⟨some 23, none, .ld none (.tmp 22)⟩,
    ⟨some 24, none, .bin .lss (.tmp 23) (.val (.int .i64 1))⟩,
    ⟨some 25, none, .mv (.tmp 24)⟩,
    ⟨some 26, (some (25, false)), .faddr 2 (.tmp 6)⟩,
    ⟨some 27, (some (25, false)), .ld none (.tmp 26)⟩,
    ⟨some 28, (some (25, false)), .bin .gtr (.tmp 27) (.val (.int .i64 1000000))⟩,
    ⟨some 29, none, .pick (.tmp 25) (.val (.bool true)) (.tmp 28)⟩,
    ⟨some 30, none, .mv (.tmp 29)⟩,
    ⟨some 31, (some (30, false)), .faddr 0 (.tmp 6)⟩,
    ⟨some 32, (some (30, false)), .ld none (.tmp 31)⟩,
    ⟨some 33, (some (30, false)), .faddr 1 (.tmp 6)⟩,
    ⟨some 34, (some (30, false)), .ld none (.tmp 33)⟩,
    ⟨some 35, (some (30, false)), .bin .eql (.tmp 32) (.tmp 34)⟩,
    ⟨some 36, none, .pick (.tmp 30) (.val (.bool true)) (.tmp 35)⟩,
    ⟨some 37, none, .mv (.tmp 36)⟩,
    ⟨some 38, (some (37, false)), .mv (.tmp 5)⟩,
    ⟨some 39, (some (37, false)), .bin .gtr (.tmp 38) (.val (.int .i64 0))⟩,
    ⟨some 40, (some (37, false)), .mv (.tmp 39)⟩,
    ⟨some 41, (some (40, true)), .mv (.tmp 1)⟩,
    ⟨some 42, (some (40, true)), .mv (.tmp 5)⟩,
    ⟨some 43, (some (40, true)), .bin .sub (.tmp 42) (.val (.int .i64 1))⟩,
    ⟨some 44, (some (40, true)), .iaS 3 (.tmp 41) (.tmp 43)⟩,
    ⟨some 45, (some (40, true)), .ld (some 3) (.tmp 44)⟩,
    ⟨some 46, (some (40, true)), .ld (some 3) (.tmp 6)⟩,
    ⟨some 47, (some (40, true)), .call 23 .pure [(.tmp 45), (.tmp 46)]⟩,
    ⟨some 48, (some (40, true)), .un .not (.tmp 47)⟩,
    ⟨some 49, (some (37, false)), .pick (.tmp 40) (.tmp 48) (.val (.bool false))⟩,
    ⟨some 50, none, .pick (.tmp 37) (.val (.bool true)) (.tmp 49)⟩] [] [0, 1, 5, 50])
  (.cond (.tmp 50)
  (.seq
  (.reg [⟨some 4, none, .mv (.val (.int .i64 1))⟩] [] [4])
  (.ret))
  (.skip)))))
  (.reg [⟨some 16, none, .mv (.tmp 5)⟩,
    ⟨some 17, none, .bin .add (.tmp 16) (.val (.int .i64 1))⟩,
    ⟨some 5, none, .mv (.tmp 17)⟩] [] [0, 1, 5])))))))
  (.seq
  (.seq
  (.reg [⟨some 7, none, .mv (.val (.int .i64 0))⟩] [] [0, 1, 7])
  (.blk 2 (.loop (.seq
  (.seq
  (.reg [⟨some 51, none, .mv (.tmp 7)⟩,
    ⟨some 52, none, .mv (.tmp 1)⟩,
    ⟨some 53, none, .len (.tmp 52)⟩,
    ⟨some 54, none, .bin .lss (.tmp 51) (.tmp 53)⟩] [] [0, 1, 7, 54])
  (.cond (.tmp 54)
  (.skip)
  (.ext 2)))
  (.seq
  (.blk 3 (.seq
  (.reg [⟨some 57, none, .mv (.tmp 1)⟩,
    ⟨some 58, none, .mv (.tmp 7)⟩,
    ⟨some 59, none, .iaS 3 (.tmp 57) (.tmp 58)⟩,
    ⟨some 60, none, .faddr 0 (.tmp 59)⟩,
    ⟨some 61, none, .ld none (.tmp 60)⟩,
    ⟨some 62, none, .bin .lss (.tmp 61) (.val (.int .i64 0))⟩,
    ⟨some 63, none, .mv (.tmp 62)⟩,
    ⟨some 64, (some (63, false)), .mv (.tmp 1)⟩,
    ⟨some 65, (some (63, false)), .mv (.tmp 7)⟩,
    ⟨some 66, (some (63, false)), .iaS 3 (.tmp 64) (.tmp 65)⟩,
    ⟨some 67, (some (63, false)), .faddr 0 (.tmp 66)⟩,
    ⟨some 68, (some (63, false)), .ld none (.tmp 67)⟩,
    ⟨some 69, (some (63, false)), .mv (.tmp 0)⟩,
    ⟨some 70, (some (63, false)), .bin .geq (.tmp 68) (.tmp 69)⟩,
    ⟨some 71, none, .pick (.tmp 63) (.val (.bool true)) (.tmp 70)⟩,
    ⟨some 72, none, .mv (.tmp 71)⟩,
    ⟨some 73, (some (72, false)), .mv (.tmp 1)⟩,
    ⟨some 74, (some (72, false)), .mv (.tmp 7)⟩,
    ⟨some 75, (some (72, false)), .iaS 3 (.tmp 73) (.tmp 74)⟩,
    ⟨some 76, (some (72, false)), .faddr 1 (.tmp 75)⟩,
    ⟨some 77, (some (72, false)), .ld none (.tmp 76)⟩,
    ⟨some 78, (some (72, false)), .bin .lss (.tmp 77) (.val (.int .i64 0))⟩,
    ⟨some 79, none, .pick (.tmp 72) (.val (.bool true)) (.tmp 78)⟩,
    ⟨some 80, none, .mv (.tmp 79)⟩,
    ⟨some 81, (some (80, false)), .mv (.tmp 1)⟩,
    ⟨some 82, (some (80, false)), .mv (.tmp 7)⟩,
    ⟨some 83, (some (80, false)), .iaS 3 (.tmp 81) (.tmp 82)⟩,
    ⟨some 84, (some (80, false)), .faddr 1 (.tmp 83)⟩,
    ⟨some 85, (some (80, false)), .ld none (.tmp 84)⟩,
    ⟨some 86, (some (80, false)), .mv (.tmp 0)⟩,
    ⟨some 87, (some (80, false)), .bin .geq (.tmp 85) (.tmp 86)⟩,
    ⟨some 88, none, .pick (.tmp 80) (.val (.bool true)) (.tmp 87)⟩] [] [0, 1, 7, 88])
  (.cond (.tmp 88)
  (.seq
  (.reg [⟨some 4, none, .mv (.val (.int .i64 2))⟩] [] [4])
  (.ret))
  (.skip))))
  (.reg [⟨some 55, none, .mv (.tmp 7)⟩,
    ⟨some 56, none, .bin .add (.tmp 55) (.val (.int .i64 1))⟩,
    ⟨some 7, none, .mv (.tmp 56)⟩] [] [0, 1, 7]))))))
  (.seq
  (.reg [⟨some 4, none, .mv (.val (.int .i64 0))⟩] [] [4])
  (.ret))))))⟩
theorem pf21_ok : fnOk Try.prog 21 pf21 = true := by kernel_rfl

/-- hinterland/hinterlandref13.Fade -/
def pf12 : PFn := ⟨48, 3, [.tmp 6, .tmp 7], .seq
  (.reg [⟨some 6, none, .mv (.val (.list .nil 1 []))⟩,
    ⟨some 7, none, .mv (.val (.int .i64 0))⟩] [] [0, 1, 2])
  (.seq
  (.seq
  (.reg [⟨some 12, none, .mv (.tmp 0)⟩,
    ⟨some 13, none, .mv (.tmp 1)⟩,
    ⟨some 14, none, .call 21 .pure [(.tmp 12), (.tmp 13)]⟩,
    ⟨some 8, none, .mv (.tmp 14)⟩] [] [1, 2, 8])
  (.seq
  (.reg [⟨some 15, none, .mv (.tmp 8)⟩,
    ⟨some 16, none, .bin .neq (.tmp 15) (.val (.int .i64 0))⟩] [] [1, 2, 8, 16])
  (.cond (.tmp 16)
  (.seq
  (.reg [⟨some 17, none, .mv (.tmp 8)⟩,
    ⟨some 6, none, .mv (.val (.list .nil 1 []))⟩,
    ⟨some 7, none, .mv (.tmp 17)⟩] [] [6, 7])
  (.ret))
  (.skip))))
  (.seq
  (.seq
  (.reg [⟨some 18, none, .mv (.tmp 2)⟩,
    ⟨some 19, none, .bin .lss (.tmp 18) (.val (.int .i64 0))⟩,
    ⟨some 20, none, .mv (.tmp 19)⟩,
    ⟨some 21, (some (20, false)), .mv (.tmp 2)⟩,
    ⟨some 22, (some (20, false)), .bin .gtr (.tmp 21) (.val (.int .i64 100))⟩,
    ⟨some 23, none, .pick (.tmp 20) (.val (.bool true)) (.tmp 22)⟩] [] [1, 2, 23])
  (.cond (.tmp 23)
  (.seq
  (.reg [⟨some 6, none, .mv (.val (.list .nil 1 []))⟩,
    ⟨some 7, none, .mv (.val (.int .i64 1))⟩] [] [6, 7])
  (.ret))
  (.skip)))
  (.seq
  (.reg [⟨some 9, none, .nacc 36 3⟩] [] [1, 2, 9])
  (.seq
  (.seq
  (.reg [⟨some 10, none, .mv (.val (.int .i64 0))⟩] [] [1, 2, 9, 10])
  (.blk 0 (.loop (.trim (.seq
  (.seq
  (.reg [⟨some 24, none, .mv (.tmp 10)⟩,
    ⟨some 25, none, .mv (.tmp 1)⟩,
    ⟨some 26, none, .len (.tmp 25)⟩,
    ⟨some 27, none, .bin .lss (.tmp 24) (.tmp 26)⟩] [] [1, 2, 9, 10, 27])
  (.cond (.tmp 27)
  (.skip)
  (.ext 0)))
  (.seq
  (.blk 1 (.seq
  (.reg [⟨some 30, none, .mv (.tmp 1)⟩,
    ⟨some 31, none, .mv (.tmp 10)⟩,
    ⟨some 32, none, .iaS 3 (.tmp 30) (.tmp 31)⟩,
    ⟨some 33, none, .ld (some 3) (.tmp 32)⟩,
    ⟨some 11, none, .zer 36 (.agg [(.int .i64 0), (.int .i64 0), (.int .i64 0)])⟩,
    ⟨none, none, .st 3 (.tmp 11) (.tmp 33)⟩] [] [1, 2, 9, 10, 11])
  (.seq
  (.reg [⟨some 34, none, .faddr 2 (.tmp 11)⟩,
    ⟨some 35, none, .ld none (.tmp 34)⟩,
    ⟨some 36, none, .mv (.tmp 2)⟩,
    ⟨some 37, none, .bin .mul (.tmp 35) (.tmp 36)⟩,
    ⟨some 38, none, .bin .quo (.tmp 37) (.val (.int .i64 100))⟩,
    ⟨some 39, none, .faddr 2 (.tmp 11)⟩,
    ⟨none, none, .st 1 (.tmp 39) (.tmp 38)⟩] [] [1, 2, 9, 10, 11])
  (.seq
  (.reg [⟨some 40, none, .faddr 2 (.tmp 11)⟩,
    ⟨some 41, none, .ld none (.tmp 40)⟩,
    ⟨some 42, none, .bin .gtr (.tmp 41) (.val (.int .i64 0))⟩] [] [1, 2, 9, 10, 11, 42])
  (.cond (.tmp 42)
  (.reg [⟨some 43, none, .mv (.tmp 9)⟩,
    ⟨some 44, none, .ld (some 3) (.tmp 11)⟩,
    ⟨some 45, none, .bsl 1 3 [(.int .i64 0), (.int .i64 0), (.int .i64 0)] [(0, 3, (.tmp 44))]⟩,
    ⟨some 46, none, .app 36 3 24 (.tmp 43) (.tmp 45)⟩,
    ⟨some 9, none, .mv (.tmp 46)⟩] [] [1, 2, 9, 10])
  (.skip))))))
  (.reg [⟨some 28, none, .mv (.tmp 10)⟩,
    ⟨some 29, none, .bin .add (.tmp 28) (.val (.int .i64 1))⟩,
    ⟨some 10, none, .mv (.tmp 29)⟩] [] [1, 2, 9, 10])))))))
  (.seq
  (.reg [⟨some 47, none, .mv (.tmp 9)⟩,
    ⟨some 6, none, .mv (.tmp 47)⟩,
    ⟨some 7, none, .mv (.val (.int .i64 0))⟩] [] [6, 7])
  (.ret))))))⟩
theorem pf12_ok : fnOk Try.prog 12 pf12 = true := by kernel_rfl

/-- cmp.Compare[int] -/
def pf30 : PFn := ⟨20, 2, [.tmp 4], .seq
  (.reg [⟨some 4, none, .mv (.val (.int .i64 0))⟩] [] [0, 1])
  (.seq
  (.reg [⟨some 7, none, .mv (.tmp 0)⟩,
    ⟨some 8, none, .call 35 .pure [(.tmp 7)]⟩,
    ⟨some 5, none, .mv (.tmp 8)⟩] [] [0, 1, 5])
  (.seq
  (.reg [⟨some 9, none, .mv (.tmp 1)⟩,
    ⟨some 10, none, .call 35 .pure [(.tmp 9)]⟩,
    ⟨some 6, none, .mv (.tmp 10)⟩] [] [0, 1, 5, 6])
  (.seq
  (.seq
  (.reg [⟨some 11, none, .mv (.tmp 5)⟩] [] [0, 1, 6, 11])
  (.cond (.tmp 11)
  (.seq
  (.seq
  (.reg [⟨some 12, none, .mv (.tmp 6)⟩] [] [12])
  (.cond (.tmp 12)
  (.seq
  (.reg [⟨some 4, none, .mv (.val (.int .i64 0))⟩] [] [4])
  (.ret))
  (.skip)))
  (.seq
  (.reg [⟨some 4, none, .mv (.val (.int .i64 (-1)))⟩] [] [4])
  (.ret)))
  (.skip)))
  (.seq
  (.seq
  (.reg [⟨some 13, none, .mv (.tmp 6)⟩] [] [0, 1, 13])
  (.cond (.tmp 13)
  (.seq
  (.reg [⟨some 4, none, .mv (.val (.int .i64 1))⟩] [] [4])
  (.ret))
  (.skip)))
  (.seq
  (.seq
  (.reg [⟨some 14, none, .mv (.tmp 0)⟩,
    ⟨some 15, none, .mv (.tmp 1)⟩,
    ⟨some 16, none, .bin .lss (.tmp 14) (.tmp 15)⟩] [] [0, 1, 16])
  (.cond (.tmp 16)
  (.seq
  (.reg [⟨some 4, none, .mv (.val (.int .i64 (-1)))⟩] [] [4])
  (.ret))
  (.skip)))
  (.seq
  (.seq
  (.reg [⟨some 17, none, .mv (.tmp 0)⟩,
    ⟨some 18, none, .mv (.tmp 1)⟩,
    ⟨some 19, none, .bin .gtr (.tmp 17) (.tmp 18)⟩] [] [19])
  (.cond (.tmp 19)
  (.seq
  (.reg [⟨some 4, none, .mv (.val (.int .i64 1))⟩] [] [4])
  (.ret))
  (.skip)))
  (.seq
  (.reg [⟨some 4, none, .mv (.val (.int .i64 0))⟩] [] [4])
  (.ret))))))))⟩
theorem pf30_ok : fnOk Try.prog 30 pf30 = true := by kernel_rfl

/-- cmp.Or[int] -/
def pf31 : PFn := ⟨18, 1, [.tmp 2], .seq
  (.reg [⟨some 2, none, .mv (.val (.int .i64 0))⟩] [] [0])
  (.seq
  (.reg [⟨some 3, none, .mv (.val (.int .i64 0))⟩] [] [0, 3])
  (.seq
  (.seq
  (.reg [⟨some 6, none, .mv (.tmp 0)⟩,
    ⟨some 7, none, .len (.tmp 6)⟩,
    ⟨some 8, none, .mv (.val (.int .i64 0))⟩] [] [3, 6, 7, 8])
  (.blk 0 (.loop (.seq
  (.reg [⟨some 9, none, .bin .lss (.tmp 8) (.tmp 7)⟩] [] [3, 6, 7, 8, 9])
  (.seq
  (.cond (.tmp 9)
  (.skip)
  (.ext 0))
  (.seq
  (.blk 1 (.seq
  (.reg [⟨some 10, none, .iaS 1 (.tmp 6) (.tmp 8)⟩,
    ⟨some 11, none, .ld none (.tmp 10)⟩,
    ⟨some 5, none, .mv (.tmp 11)⟩] [] [3, 5, 6, 7, 8])
  (.seq
  (.reg [⟨some 12, none, .mv (.tmp 5)⟩,
    ⟨some 13, none, .mv (.tmp 3)⟩,
    ⟨some 14, none, .bin .neq (.tmp 12) (.tmp 13)⟩] [] [3, 5, 6, 7, 8, 14])
  (.cond (.tmp 14)
  (.seq
  (.reg [⟨some 15, none, .mv (.tmp 5)⟩,
    ⟨some 2, none, .mv (.tmp 15)⟩] [] [2])
  (.ret))
  (.skip)))))
  (.reg [⟨some 16, none, .bin .add (.tmp 8) (.val (.int .i64 1))⟩,
    ⟨some 8, none, .mv (.tmp 16)⟩] [] [3, 6, 7, 8])))))))
  (.seq
  (.reg [⟨some 17, none, .mv (.tmp 3)⟩,
    ⟨some 2, none, .mv (.tmp 17)⟩] [] [2])
  (.ret))))⟩
theorem pf31_ok : fnOk Try.prog 31 pf31 = true := by kernel_rfl

/-- hinterland/flow.compareLinks -/
def pf26 : PFn := ⟨17, 2, [.tmp 4], .seq
  (.reg [⟨some 2, none, .boxp 36 (.tmp 0)⟩,
    ⟨some 3, none, .boxp 36 (.tmp 1)⟩,
    ⟨some 4, none, .mv (.val (.int .i64 0))⟩] [] [2, 3])
  (.seq
  (.reg [⟨some 5, none, .faddr 0 (.tmp 2)⟩,
    ⟨some 6, none, .ld none (.tmp 5)⟩,
    ⟨some 7, none, .faddr 0 (.tmp 3)⟩,
    ⟨some 8, none, .ld none (.tmp 7)⟩,
    ⟨some 9, none, .call 30 .pure [(.tmp 6), (.tmp 8)]⟩,
    ⟨some 10, none, .faddr 1 (.tmp 2)⟩,
    ⟨some 11, none, .ld none (.tmp 10)⟩,
    ⟨some 12, none, .faddr 1 (.tmp 3)⟩,
    ⟨some 13, none, .ld none (.tmp 12)⟩,
    ⟨some 14, none, .call 30 .pure [(.tmp 11), (.tmp 13)]⟩,
    ⟨some 15, none, .bsl 2 1 [(.int .i64 0)] [(0, 1, (.tmp 9)), (1, 1, (.tmp 14))]⟩,
    ⟨some 16, none, .call 31 .pure [(.tmp 15)]⟩,
    ⟨some 4, none, .mv (.tmp 16)⟩] [] [4])
  (.ret))⟩
theorem pf26_ok : fnOk Try.prog 26 pf26 = true := by kernel_rfl

/-- hinterland/flow.Validate -/
def pf17 : PFn := ⟨73, 2, [.tmp 4], .seq
  (.reg [⟨some 4, none, .mv (.val (.int .i64 0))⟩] [] [0, 1])
  (.seq
  (.blk 0 (.seq
  (.reg [⟨some 10, none, .mv (.tmp 0)⟩,
    ⟨some 11, none, .bin .gtr (.tmp 10) (.val (.int .i64 40))⟩,
    ⟨some 9, none, .mv (.tmp 11)⟩] [] [0, 1, 9])
  (.cond (.tmp 9)
  (.seq
  (.reg [⟨some 4, none, .mv (.val (.int .i64 4))⟩] [] [4])
  (.ret))
  (.seq
  (.reg [⟨some 13, none, .mv (.tmp 0)⟩,
    ⟨some 14, none, .bin .lss (.tmp 13) (.val (.int .i64 0))⟩,
    ⟨some 12, none, .mv (.tmp 14)⟩] [] [0, 1, 12])
  (.cond (.tmp 12)
  (.seq
  (.reg [⟨some 4, none, .mv (.val (.int .i64 1))⟩] [] [4])
  (.ret))
  (.skip))))))
  (.seq
  (.seq
  (.reg [⟨some 15, none, .mv (.tmp 1)⟩,
    ⟨some 16, none, .len (.tmp 15)⟩,
    ⟨some 17, none, .mv (.val (.int .i64 0))⟩] [] [0, 1, 15, 16, 17])
  (.blk 1 (.loop (.trim (.seq
  (.reg [⟨some 18, none, .bin .lss (.tmp 17) (.tmp 16)⟩] [] [0, 1, 15, 16, 17, 18])
  (.seq
  (.cond (.tmp 18)
  (.skip)
  (.ext 1))
  (.seq
  (.blk 2 (.seq
  (.reg [⟨some 19, none, .mv (.tmp 17)⟩,
    ⟨some 20, none, .iaS 3 (.tmp 15) (.tmp 17)⟩,
    ⟨some 21, none, .ld (some 3) (.tmp 20)⟩,
    ⟨some 6, none, .zer 36 (.agg [(.int .i64 0), (.int .i64 0), (.int .i64 0)])⟩,
    ⟨some 5, none, .mv (.tmp 19)⟩,
    ⟨none, none, .st 3 (.tmp 6) (.tmp 21)⟩] [] [0, 1, 5, 6, 15, 16, 17])
  (.seq
  (.reg [⟨some 22, none, .faddr 2 (.tmp 6)⟩,
    ⟨some 23, none, .ld none (.tmp 22)⟩,
    ⟨some 24, none, .bin .lss (.tmp 23) (.val (.int .i64 1))⟩,
    ⟨some 25, none, .mv (.tmp 24)⟩,
    ⟨some 26, (some (25, false)), .faddr 2 (.tmp 6)⟩,
    ⟨some 27, (some (25, false)), .ld none (.tmp 26)⟩,
    ⟨some 28, (some (25, false)), .bin .gtr (.tmp 27) (.val (.int .i64 1000000))⟩,
    ⟨some 29, none, .pick (.tmp 25) (.val (.bool true)) (.tmp 28)⟩,
    ⟨some 30, none, .mv (.tmp 29)⟩,
    ⟨some 31, (some (30, false)), .faddr 0 (.tmp 6)⟩,
    ⟨some 32, (some (30, false)), .ld none (.tmp 31)⟩,
    ⟨some 33, (some (30, false)), .faddr 1 (.tmp 6)⟩,
    ⟨some 34, (some (30, false)), .ld none (.tmp 33)⟩,
    ⟨some 35, (some (30, false)), .bin .eql (.tmp 32) (.tmp 34)⟩,
    ⟨some 36, none, .pick (.tmp 30) (.val (.bool true)) (.tmp 35)⟩,
    ⟨some 37, none, .mv (.tmp 36)⟩,
    ⟨some 38, (some (37, false)), .mv (.tmp 5)⟩,
    ⟨some 39, (some (37, false)), .bin .gtr (.tmp 38) (.val (.int .i64 0))⟩,
    ⟨some 40, (some (37, false)), .mv (.tmp 39)⟩,
    ⟨some 41, (some (40, true)), .mv (.tmp 1)⟩,
    ⟨some 42, (some (40, true)), .mv (.tmp 5)⟩,
    ⟨some 43, (some (40, true)), .bin .sub (.tmp 42) (.val (.int .i64 1))⟩,
    ⟨some 44, (some (40, true)), .iaS 3 (.tmp 41) (.tmp 43)⟩,
    ⟨some 45, (some (40, true)), .ld (some 3) (.tmp 44)⟩,
    ⟨some 46, (some (40, true)), .ld (some 3) (.tmp 6)⟩,
    ⟨some 47, (some (40, true)), .call 26 .pure [(.tmp 45), (.tmp 46)]⟩,
    ⟨some 48, (some (40, true)), .bin .geq (.tmp 47) (.val (.int .i64 0))⟩,
    ⟨some 49, (some (37, false)), .pick (.tmp 40) (.tmp 48) (.val (.bool false))⟩,
    ⟨some 50, none, .pick (.tmp 37) (.val (.bool true)) (.tmp 49)⟩] [] [0, 1, 15, 16, 17, 50])
  (.cond (.tmp 50)
  (.seq
  (.reg [⟨some 4, none, .mv (.val (.int .i64 1))⟩] [] [4])
  (.ret))
  (.skip)))))
  (.reg [⟨some 51, none, .bin .add (.tmp 17) (.val (.int .i64 1))⟩,
    ⟨some 17, none, .mv (.tmp 51)⟩] [] [0, 1, 15, 16, 17]))))))))
  (.seq
  (.seq
  (.reg [⟨some 52, none, .mv (.tmp 1)⟩,
    ⟨some 53, none, .len (.tmp 52)⟩,
    ⟨some 54, none, .mv (.val (.int .i64 0))⟩] [] [0, 52, 53, 54])
  (.blk 3 (.loop (.trim (.seq
  (.reg [⟨some 55, none, .bin .lss (.tmp 54) (.tmp 53)⟩] [] [0, 52, 53, 54, 55])
  (.seq
  (.cond (.tmp 55)
  (.skip)
  (.ext 3))
  (.seq
  (.blk 4 (.seq
  (.reg [⟨some 56, none, .iaS 3 (.tmp 52) (.tmp 54)⟩,
    ⟨some 57, none, .ld (some 3) (.tmp 56)⟩,
    ⟨some 8, none, .zer 36 (.agg [(.int .i64 0), (.int .i64 0), (.int .i64 0)])⟩,
    ⟨none, none, .st 3 (.tmp 8) (.tmp 57)⟩] [] [0, 8, 52, 53, 54])
  (.seq
  (.reg [⟨some 58, none, .faddr 0 (.tmp 8)⟩,
    ⟨some 59, none, .ld none (.tmp 58)⟩,
    ⟨some 60, none, .mv (.tmp 0)⟩,
    ⟨some 61, none, .bin .sub (.tmp 60) (.val (.int .i64 1))⟩,
    ⟨some 62, none, .call 19 .pure [(.tmp 59), (.tmp 61)]⟩,
    ⟨some 63, none, .un .not (.tmp 62)⟩,
    ⟨some 64, none, .mv (.tmp 63)⟩,
    ⟨some 65, (some (64, false)), .faddr 1 (.tmp 8)⟩,
    ⟨some 66, (some (64, false)), .ld none (.tmp 65)⟩,
    ⟨some 67, (some (64, false)), .mv (.tmp 0)⟩,
    ⟨some 68, (some (64, false)), .bin .sub (.tmp 67) (.val (.int .i64 1))⟩,
    ⟨some 69, (some (64, false)), .call 19 .pure [(.tmp 66), (.tmp 68)]⟩,
    ⟨some 70, (some (64, false)), .un .not (.tmp 69)⟩,
    ⟨some 71, none, .pick (.tmp 64) (.val (.bool true)) (.tmp 70)⟩] [] [0, 52, 53, 54, 71])
  (.cond (.tmp 71)
  (.seq
  (.reg [⟨some 4, none, .mv (.val (.int .i64 2))⟩] [] [4])
  (.ret))
  (.skip)))))
  (.reg [⟨some 72, none, .bin .add (.tmp 54) (.val (.int .i64 1))⟩,
    ⟨some 54, none, .mv (.tmp 72)⟩] [] [0, 52, 53, 54]))))))))
  (.seq
  (.reg [⟨some 4, none, .mv (.val (.int .i64 0))⟩] [] [4])
  (.ret)))))⟩
theorem pf17_ok : fnOk Try.prog 17 pf17 = true := by kernel_rfl

/-- hinterland/flow.Fade -/
def pf13 : PFn := ⟨42, 3, [.tmp 6, .tmp 7], .seq
  (.reg [⟨some 6, none, .mv (.val (.list .nil 1 []))⟩,
    ⟨some 7, none, .mv (.val (.int .i64 0))⟩] [] [0, 1, 2])
  (.seq
  (.seq
  (.reg [⟨some 12, none, .mv (.tmp 0)⟩,
    ⟨some 13, none, .mv (.tmp 1)⟩,
    ⟨some 14, none, .call 17 .pure [(.tmp 12), (.tmp 13)]⟩,
    ⟨some 8, none, .mv (.tmp 14)⟩] [] [1, 2, 8])
  (.seq
  (.reg [⟨some 15, none, .mv (.tmp 8)⟩,
    ⟨some 16, none, .bin .neq (.tmp 15) (.val (.int .i64 0))⟩] [] [1, 2, 8, 16])
  (.cond (.tmp 16)
  (.seq
  (.reg [⟨some 17, none, .mv (.tmp 8)⟩,
    ⟨some 6, none, .mv (.val (.list .nil 1 []))⟩,
    ⟨some 7, none, .mv (.tmp 17)⟩] [] [6, 7])
  (.ret))
  (.skip))))
  (.seq
  (.seq
  (.reg [⟨some 18, none, .mv (.tmp 2)⟩,
    ⟨some 19, none, .call 19 .pure [(.tmp 18), (.val (.int .i64 100))]⟩,
    ⟨some 20, none, .un .not (.tmp 19)⟩] [] [1, 2, 20])
  (.cond (.tmp 20)
  (.seq
  (.reg [⟨some 6, none, .mv (.val (.list .nil 1 []))⟩,
    ⟨some 7, none, .mv (.val (.int .i64 1))⟩] [] [6, 7])
  (.ret))
  (.skip)))
  (.seq
  (.reg [⟨some 9, none, .nacc 36 3⟩] [] [1, 2, 9])
  (.seq
  (.seq
  (.reg [⟨some 21, none, .mv (.tmp 1)⟩,
    ⟨some 22, none, .len (.tmp 21)⟩,
    ⟨some 23, none, .mv (.val (.int .i64 0))⟩] [] [2, 9, 21, 22, 23])
  (.blk 0 (.loop (.trim (.seq
  (.reg [⟨some 24, none, .bin .lss (.tmp 23) (.tmp 22)⟩] [] [2, 9, 21, 22, 23, 24])
  (.seq
  (.cond (.tmp 24)
  (.skip)
  (.ext 0))
  (.seq
  (.blk 1 (.seq
  (.reg [⟨some 25, none, .iaS 3 (.tmp 21) (.tmp 23)⟩,
    ⟨some 26, none, .ld (some 3) (.tmp 25)⟩,
    ⟨some 11, none, .zer 36 (.agg [(.int .i64 0), (.int .i64 0), (.int .i64 0)])⟩,
    ⟨none, none, .st 3 (.tmp 11) (.tmp 26)⟩] [] [2, 9, 11, 21, 22, 23])
  (.seq
  (.reg [⟨some 27, none, .faddr 2 (.tmp 11)⟩,
    ⟨some 28, none, .ld none (.tmp 27)⟩,
    ⟨some 29, none, .mv (.tmp 2)⟩,
    ⟨some 30, none, .bin .mul (.tmp 28) (.tmp 29)⟩,
    ⟨some 31, none, .bin .quo (.tmp 30) (.val (.int .i64 100))⟩,
    ⟨some 32, none, .faddr 2 (.tmp 11)⟩,
    ⟨none, none, .st 1 (.tmp 32) (.tmp 31)⟩] [] [2, 9, 11, 21, 22, 23])
  (.seq
  (.reg [⟨some 33, none, .faddr 2 (.tmp 11)⟩,
    ⟨some 34, none, .ld none (.tmp 33)⟩,
    ⟨some 35, none, .bin .gtr (.tmp 34) (.val (.int .i64 0))⟩] [] [2, 9, 11, 21, 22, 23, 35])
  (.cond (.tmp 35)
  (.reg [⟨some 36, none, .mv (.tmp 9)⟩,
    ⟨some 37, none, .ld (some 3) (.tmp 11)⟩,
    ⟨some 38, none, .bsl 1 3 [(.int .i64 0), (.int .i64 0), (.int .i64 0)] [(0, 3, (.tmp 37))]⟩,
    ⟨some 39, none, .app 36 3 24 (.tmp 36) (.tmp 38)⟩,
    ⟨some 9, none, .mv (.tmp 39)⟩] [] [2, 9, 21, 22, 23])
  (.skip))))))
  (.reg [⟨some 40, none, .bin .add (.tmp 23) (.val (.int .i64 1))⟩,
    ⟨some 23, none, .mv (.tmp 40)⟩] [] [2, 9, 21, 22, 23]))))))))
  (.seq
  (.reg [⟨some 41, none, .mv (.tmp 9)⟩,
    ⟨some 6, none, .mv (.tmp 41)⟩,
    ⟨some 7, none, .mv (.val (.int .i64 0))⟩] [] [6, 7])
  (.ret))))))⟩
theorem pf13_ok : fnOk Try.prog 13 pf13 = true := by kernel_rfl

/-- hinterland/hinterlandsame.List[hinterland/api.Link] -/
def pf14 : PFn := ⟨26, 2, [.tmp 4], .seq
  (.reg [⟨some 4, none, .mv (.val (.bool false))⟩] [] [0, 1])
  (.seq
  (.seq
  (.reg [⟨some 6, none, .mv (.tmp 0)⟩,
    ⟨some 7, none, .len (.tmp 6)⟩,
    ⟨some 8, none, .mv (.tmp 1)⟩,
    ⟨some 9, none, .len (.tmp 8)⟩,
    ⟨some 10, none, .bin .neq (.tmp 7) (.tmp 9)⟩] [] [0, 1, 10])
  (.cond (.tmp 10)
  (.seq
  (.reg [⟨some 4, none, .mv (.val (.bool false))⟩] [] [4])
  (.ret))
  (.skip)))
  (.seq
  (.seq
  (.reg [⟨some 5, none, .mv (.val (.int .i64 0))⟩] [] [0, 1, 5])
  (.blk 0 (.loop (.seq
  (.seq
  (.reg [⟨some 11, none, .mv (.tmp 5)⟩,
    ⟨some 12, none, .mv (.tmp 0)⟩,
    ⟨some 13, none, .len (.tmp 12)⟩,
    ⟨some 14, none, .bin .lss (.tmp 11) (.tmp 13)⟩] [] [0, 1, 5, 14])
  (.cond (.tmp 14)
  (.skip)
  (.ext 0)))
  (.seq
  (.blk 1 (.seq
  (.reg [⟨some 17, none, .mv (.tmp 0)⟩,
    ⟨some 18, none, .mv (.tmp 5)⟩,
    ⟨some 19, none, .iaS 3 (.tmp 17) (.tmp 18)⟩,
    ⟨some 20, none, .ld (some 3) (.tmp 19)⟩,
    ⟨some 21, none, .mv (.tmp 1)⟩,
    ⟨some 22, none, .mv (.tmp 5)⟩,
    ⟨some 23, none, .iaS 3 (.tmp 21) (.tmp 22)⟩,
    ⟨some 24, none, .ld (some 3) (.tmp 23)⟩,
    ⟨some 25, none, .eqs true [true, true, true] (.tmp 20) (.tmp 24)⟩] [] [0, 1, 5, 25])
  (.cond (.tmp 25)
  (.seq
  (.reg [⟨some 4, none, .mv (.val (.bool false))⟩] [] [4])
  (.ret))
  (.skip))))
  (.reg [⟨some 15, none, .mv (.tmp 5)⟩,
    ⟨some 16, none, .bin .add (.tmp 15) (.val (.int .i64 1))⟩,
    ⟨some 5, none, .mv (.tmp 16)⟩] [] [0, 1, 5]))))))
  (.seq
  (.reg [⟨some 4, none, .mv (.val (.bool true))⟩] [] [4])
  (.ret))))⟩
theorem pf14_ok : fnOk Try.prog 14 pf14 = true := by kernel_rfl

/-- hinterland/hinterlandref13.Demand -/
def pf8 : PFn := ⟨157, 1, [.tmp 2, .tmp 3], .seq
  (.reg [⟨some 2, none, .mv (.val (.list .nil 1 []))⟩,
    ⟨some 3, none, .mv (.val (.int .i64 0))⟩] [] [0])
  (.seq
  (.seq
  (.reg [⟨some 15, none, .mv (.tmp 0)⟩,
    ⟨some 16, none, .len (.tmp 15)⟩,
    ⟨some 17, none, .bin .gtr (.tmp 16) (.val (.int .i64 40))⟩] [] [0, 17])
  (.cond (.tmp 17)
  (.seq
  (.reg [⟨some 2, none, .mv (.val (.list .nil 1 []))⟩,
    ⟨some 3, none, .mv (.val (.int .i64 4))⟩] [] [2, 3])
  (.ret))
  (.skip)))
  (.seq
  (.seq
  (.reg [⟨some 4, none, .mv (.val (.int .i64 0))⟩] [] [0, 4])
  (.blk 0 (.loop (.seq
  (.seq
  (.reg [⟨some 18, none, .mv (.tmp 4)⟩,
    ⟨some 19, none, .mv (.tmp 0)⟩,
    ⟨some 20, none, .len (.tmp 19)⟩,
    ⟨some 21, none, .bin .lss (.tmp 18) (.tmp 20)⟩] [] [0, 4, 21])
  (.cond (.tmp 21)
  (.skip)
  (.ext 0)))
  (.seq
  (.blk 1 (.seq
  (.reg [⟨some 24, none, .mv (.tmp 0)⟩,
    ⟨some 25, none, .mv (.tmp 4)⟩,
    ⟨some 26, none, .iaS 1 (.tmp 24) (.tmp 25)⟩,
    ⟨some 27, none, .ld none (.tmp 26)⟩,
    ⟨some 28, none, .bin .lss (.tmp 27) (.val (.int .i64 0))⟩,
    ⟨some 29, none, .mv (.tmp 28)⟩,
    ⟨some 30, (some (29, false)), .mv (.tmp 0)⟩,
    ⟨some 31, (some (29, false)), .mv (.tmp 4)⟩,
    ⟨some 32, (some (29, false)), .iaS 1 (.tmp 30) (.tmp 31)⟩,
    ⟨some 33, (some (29, false)), .ld none (.tmp 32)⟩,
    ⟨some 34, (some (29, false)), .bin .gtr (.tmp 33) (.val (.int .i64 1000000))⟩,
    ⟨some 35, none, .pick (.tmp 29) (.val (.bool true)) (.tmp 34)⟩] [] [0, 4, 35])
  (.cond (.tmp 35)
  (.seq
  (.reg [⟨some 2, none, .mv (.val (.list .nil 1 []))⟩,
    ⟨some 3, none, .mv (.val (.int .i64 1))⟩] [] [2, 3])
  (.ret))
  (.skip))))
  (.reg [⟨some 22, none, .mv (.tmp 4)⟩,
    ⟨some 23, none, .bin .add (.tmp 22) (.val (.int .i64 1))⟩,
    ⟨some 4, none, .mv (.tmp 23)⟩] [] [0, 4]))))))
  (.seq
  (.reg [⟨some 5, none, .nacc 22 1⟩] [] [0, 5])
  (.seq
  (.seq
  (.reg [⟨some 6, none, .mv (.val (.int .i64 0))⟩] [] [0, 5, 6])
  (.blk 2 (.loop (.seq
  (.seq
  (.reg [⟨some 36, none, .mv (.tmp 6)⟩,
    ⟨some 37, none, .mv (.tmp 0)⟩,
    ⟨some 38, none, .len (.tmp 37)⟩,
    ⟨some 39, none, .bin .lss (.tmp 36) (.tmp 38)⟩] [] [0, 5, 6, 39])
  (.cond (.tmp 39)
  (.skip)
  (.ext 2)))
  (.seq
  (.blk 3 (.seq
  (.reg [⟨some 42, none, .mv (.tmp 0)⟩,
    ⟨some 43, none, .len (.tmp 42)⟩,
    ⟨some 44, none, .mks 3 1 8 [(.int .i64 0)] (.tmp 43) (.tmp 43)⟩,
    ⟨some 7, none, .mv (.tmp 44)⟩] [] [0, 5, 6, 7])
  (.seq
  (.reg [⟨some 45, none, .mv (.tmp 0)⟩,
    ⟨some 46, none, .mv (.tmp 6)⟩,
    ⟨some 47, none, .iaS 1 (.tmp 45) (.tmp 46)⟩,
    ⟨some 48, none, .ld none (.tmp 47)⟩,
    ⟨some 8, none, .mv (.val (.int .i64 0))⟩,
    ⟨some 9, none, .mv (.tmp 48)⟩] [] [0, 5, 6, 7, 8, 9])
  (.seq
  (.seq
  (.reg [⟨some 10, none, .mv (.val (.int .i64 0))⟩] [] [0, 5, 6, 7, 8, 9, 10])
  (.blk 4 (.loop (.seq
  (.seq
  (.reg [⟨some 49, none, .mv (.tmp 10)⟩,
    ⟨some 50, none, .mv (.tmp 0)⟩,
    ⟨some 51, none, .len (.tmp 50)⟩,
    ⟨some 52, none, .bin .lss (.tmp 49) (.tmp 51)⟩] [] [0, 5, 6, 7, 8, 9, 10, 52])
  (.cond (.tmp 52)
  (.skip)
  (.ext 4)))
  (.seq
  (.blk 5 (.seq
  (.reg [⟨some 55, none, .mv (.tmp 10)⟩,
    ⟨some 56, none, .mv (.tmp 6)⟩,
    ⟨some 57, none, .bin .neq (.tmp 55) (.tmp 56)⟩] [] [0, 5, 6, 7, 8, 9, 10, 57])
  (.cond (.tmp 57)
  (.reg [⟨some 58, none, .mv (.tmp 8)⟩,
    ⟨some 59, none, .mv (.tmp 0)⟩,
    ⟨some 60, none, .mv (.tmp 10)⟩,
    ⟨some 61, none, .iaS 1 (.tmp 59) (.tmp 60)⟩,
    ⟨some 62, none, .ld none (.tmp 61)⟩,
    ⟨some 63, none, .bin .add (.tmp 58) (.tmp 62)⟩,
    ⟨some 8, none, .mv (.tmp 63)⟩] [] [0, 5, 6, 7, 8, 9, 10])
  (.skip))))
  (.reg [⟨some 53, none, .mv (.tmp 10)⟩,
    ⟨some 54, none, .bin .add (.tmp 53) (.val (.int .i64 1))⟩,
    ⟨some 10, none, .mv (.tmp 54)⟩] [] [0, 5, 6, 7, 8, 9, 10]))))))
  (.seq
  (.seq
  (.reg [⟨some 64, none, .mv (.tmp 8)⟩,
    ⟨some 65, none, .bin .gtr (.tmp 64) (.val (.int .i64 0))⟩] [] [0, 5, 6, 7, 8, 9, 65])
  (.cond (.tmp 65)
  (.seq
  (.seq
  (.reg [⟨some 11, none, .mv (.val (.int .i64 0))⟩] [] [0, 5, 6, 7, 8, 9, 11])
  (.blk 6 (.loop (.seq
  (.seq
  (.reg [⟨some 66, none, .mv (.tmp 11)⟩,
    ⟨some 67, none, .mv (.tmp 0)⟩,
    ⟨some 68, none, .len (.tmp 67)⟩,
    ⟨some 69, none, .bin .lss (.tmp 66) (.tmp 68)⟩] [] [0, 5, 6, 7, 8, 9, 11, 69])
  (.cond (.tmp 69)
  (.skip)
  (.ext 6)))
  (.seq
  (.blk 7 (.seq
  (.reg [⟨some 72, none, .mv (.tmp 11)⟩,
    ⟨some 73, none, .mv (.tmp 6)⟩,
    ⟨some 74, none, .bin .neq (.tmp 72) (.tmp 73)⟩] [] [0, 5, 6, 7, 8, 9, 11, 74])
  (.cond (.tmp 74)
  (.seq
  (.reg [⟨some 75, none, .mv (.tmp 7)⟩,
    ⟨some 76, none, .mv (.tmp 11)⟩,
    ⟨some 77, none, .mv (.tmp 0)⟩,
    ⟨some 78, none, .mv (.tmp 6)⟩,
    ⟨some 79, none, .iaS 1 (.tmp 77) (.tmp 78)⟩,
    ⟨some 80, none, .ld none (.tmp 79)⟩,
    ⟨some 81, none, .mv (.tmp 0)⟩,
    ⟨some 82, none, .mv (.tmp 11)⟩,
    ⟨some 83, none, .iaS 1 (.tmp 81) (.tmp 82)⟩,
    ⟨some 84, none, .ld none (.tmp 83)⟩,
    ⟨some 85, none, .bin .mul (.tmp 80) (.tmp 84)⟩,
    ⟨some 86, none, .mv (.tmp 8)⟩,
    ⟨some 87, none, .bin .quo (.tmp 85) (.tmp 86)⟩,
    ⟨some 88, none, .iaS 1 (.tmp 75) (.tmp 76)⟩,
    ⟨none, none, .st 1 (.tmp 88) (.tmp 87)⟩] [] [0, 5, 6, 7, 8, 9, 11])
  (.reg [⟨some 89, none, .mv (.tmp 9)⟩,
    ⟨some 90, none, .mv (.tmp 7)⟩,
    ⟨some 91, none, .mv (.tmp 11)⟩,
    ⟨some 92, none, .iaS 1 (.tmp 90) (.tmp 91)⟩,
    ⟨some 93, none, .ld none (.tmp 92)⟩,
    ⟨some 94, none, .bin .sub (.tmp 89) (.tmp 93)⟩,
    ⟨some 9, none, .mv (.tmp 94)⟩] [] [0, 5, 6, 7, 8, 9, 11]))
  (.skip))))
  (.reg [⟨some 70, none, .mv (.tmp 11)⟩,
    ⟨some 71, none, .bin .add (.tmp 70) (.val (.int .i64 1))⟩,
    ⟨some 11, none, .mv (.tmp 71)⟩] [] [0, 5, 6, 7, 8, 9, 11]))))))
  (.seq
  (.reg [⟨some 95, none, .mv (.tmp 0)⟩,
    ⟨some 96, none, .len (.tmp 95)⟩,
    ⟨some 97, none, .mks 4 1 1 [(.bool false)] (.tmp 96) (.tmp 96)⟩,
    ⟨some 12, none, .mv (.tmp 97)⟩] [] [0, 5, 6, 7, 9, 12])
  (.blk 8 (.loop (.seq
  (.seq
  (.reg [⟨some 98, none, .mv (.tmp 9)⟩,
    ⟨some 99, none, .bin .gtr (.tmp 98) (.val (.int .i64 0))⟩] [] [0, 5, 6, 7, 9, 12, 99])
  (.cond (.tmp 99)
  (.skip)
  (.ext 8)))
  (.seq
  (.blk 9 (.seq
  (.reg [⟨some 13, none, .mv (.val (.int .i64 (-1)))⟩] [] [0, 5, 6, 7, 9, 12, 13])
  (.seq
  (.seq
  (.reg [⟨some 14, none, .mv (.val (.int .i64 0))⟩] [] [0, 5, 6, 7, 9, 12, 13, 14])
  (.blk 10 (.loop (.seq
  (.seq
  (.reg [⟨some 102, none, .mv (.tmp 14)⟩,
    ⟨some 103, none, .mv (.tmp 0)⟩,
    ⟨some 104, none, .len (.tmp 103)⟩,
    ⟨some 105, none, .bin .lss (.tmp 102) (.tmp 104)⟩] [] [0, 5, 6, 7, 9, 12, 13, 14, 105])
  (.cond (.tmp 105)
  (.skip)
  (.ext 10)))
  (.seq
  (.blk 11 (.seq
  (.reg [⟨some 108, none, .mv (.tmp 14)⟩,
    ⟨some 109, none, .mv (.tmp 6)⟩,
    ⟨some 110, none, .bin .neq (.tmp 108) (.tmp 109)⟩,
    ⟨some 111, none, .mv (.tmp 110)⟩,
    ⟨some 112, (some (111, true)), .mv (.tmp 12)⟩,
    ⟨some 113, (some (111, true)), .mv (.tmp 14)⟩,
    ⟨some 114, (some (111, true)), .iaS 1 (.tmp 112) (.tmp 113)⟩,
    ⟨some 115, (some (111, true)), .ld none (.tmp 114)⟩,
    ⟨some 116, (some (111, true)), .un .not (.tmp 115)⟩,
    ⟨some 117, none, .pick (.tmp 111) (.tmp 116) (.val (.bool false))⟩,
    ⟨some 118, none, .mv (.tmp 117)⟩,
    ⟨some 119, (some (118, true)), .mv (.tmp 0)⟩,
    ⟨some 120, (some (118, true)), .mv (.tmp 14)⟩,
    ⟨some 121, (some (118, true)), .iaS 1 (.tmp 119) (.tmp 120)⟩,
    ⟨some 122, (some (118, true)), .ld none (.tmp 121)⟩,
    ⟨some 123, (some (118, true)), .bin .gtr (.tmp 122) (.val (.int .i64 0))⟩,
    ⟨some 124, none, .pick (.tmp 118) (.tmp 123) (.val (.bool false))⟩,
    ⟨some 125, none, .mv (.tmp 124)⟩,
    ⟨some 126, (some (125, true)), .mv (.tmp 13)⟩,
    ⟨some 127, (some (125, true)), .bin .lss (.tmp 126) (.val (.int .i64 0))⟩,
    ⟨some 128, (some (125, true)), .mv (.tmp 127)⟩,
    ⟨some 129, (some (128, false)), .mv (.tmp 0)⟩,
    ⟨some 130, (some (128, false)), .mv (.tmp 14)⟩,
    ⟨some 131, (some (128, false)), .iaS 1 (.tmp 129) (.tmp 130)⟩,
    ⟨some 132, (some (128, false)), .ld none (.tmp 131)⟩,
    ⟨some 133, (some (128, false)), .mv (.tmp 0)⟩,
    ⟨some 134, (some (128, false)), .mv (.tmp 13)⟩,
    ⟨some 135, (some (128, false)), .iaS 1 (.tmp 133) (.tmp 134)⟩,
    ⟨some 136, (some (128, false)), .ld none (.tmp 135)⟩,
    ⟨some 137, (some (128, false)), .bin .gtr (.tmp 132) (.tmp 136)⟩,
    ⟨some 138, (some (125, true)), .pick (.tmp 128) (.val (.bool true)) (.tmp 137)⟩,
    ⟨some 139, none, .pick (.tmp 125) (.tmp 138) (.val (.bool false))⟩] [] [0, 5, 6, 7, 9, 12, 13, 14, 139])
  (.cond (.tmp 139)
  (.reg [⟨some 140, none, .mv (.tmp 14)⟩,
    ⟨some 13, none, .mv (.tmp 140)⟩] [] [0, 5, 6, 7, 9, 12, 13, 14])
  (.skip))))
  (.reg [⟨some 106, none, .mv (.tmp 14)⟩,
    ⟨some 107, none, .bin .add (.tmp 106) (.val (.int .i64 1))⟩,
    ⟨some 14, none, .mv (.tmp 107)⟩] [] [0, 5, 6, 7, 9, 12, 13, 14]))))))
  (.seq
  (.seq
  (.reg [⟨some 141, none, .mv (.tmp 13)⟩,
    ⟨some 142, none, .bin .lss (.tmp 141) (.val (.int .i64 0))⟩] [] [0, 5, 6, 7, 9, 12, 13, 142])
  (.cond (.tmp 142)
  (.ext 8)
  (.skip)))
  (.seq
  (.reg [⟨some 143, none, .mv (.tmp 12)⟩,
    ⟨some 144, none, .mv (.tmp 13)⟩,
    ⟨some 145, none, .iaS 1 (.tmp 143) (.tmp 144)⟩,
    ⟨none, none, .st 1 (.tmp 145) (.val (.bool true))⟩] [] [0, 5, 6, 7, 9, 12, 13])
  (.reg [⟨some 146, none, .mv (.tmp 7)⟩,
    ⟨some 147, none, .mv (.tmp 13)⟩,
    ⟨some 148, none, .iaS 1 (.tmp 146) (.tmp 147)⟩,
    ⟨some 149, none, .ld none (.tmp 148)⟩,
    ⟨some 150, none, .bin .add (.tmp 149) (.val (.int .i64 1))⟩,
    ⟨some 151, none, .iaS 1 (.tmp 146) (.tmp 147)⟩,
    ⟨none, none, .st 1 (.tmp 151) (.tmp 150)⟩] [] [0, 5, 6, 7, 9, 12]))))))
  (.reg [⟨some 100, none, .mv (.tmp 9)⟩,
    ⟨some 101, none, .bin .sub (.tmp 100) (.val (.int .i64 1))⟩,
    ⟨some 9, none, .mv (.tmp 101)⟩] [] [0, 5, 6, 7, 9, 12])))))))
  (.skip)))
  (.reg [⟨some 152, none, .mv (.tmp 5)⟩,
    ⟨some 153, none, .mv (.tmp 7)⟩,
    ⟨some 154, none, .bslm 22 1 1 [(.list .nil 1 [])] [(0, 1, (.tmp 153))]⟩,
    ⟨some 155, none, .app 22 1 24 (.tmp 152) (.tmp 154)⟩,
    ⟨some 5, none, .mv (.tmp 155)⟩] [] [0, 5, 6]))))))
  (.reg [⟨some 40, none, .mv (.tmp 6)⟩,
    ⟨some 41, none, .bin .add (.tmp 40) (.val (.int .i64 1))⟩,
    ⟨some 6, none, .mv (.tmp 41)⟩] [] [0, 5, 6]))))))
  (.seq
  (.reg [⟨some 156, none, .mv (.tmp 5)⟩,
    ⟨some 2, none, .mv (.tmp 156)⟩,
    ⟨some 3, none, .mv (.val (.int .i64 0))⟩] [] [2, 3])
  (.ret))))))⟩
theorem pf8_ok : fnOk Try.prog 8 pf8 = true := by kernel_rfl

/-- hinterland/hinterlandref13.place -/
def pf22 : PFn := ⟨31, 3, [.tmp 6], .seq
  (.reg [⟨some 6, none, .mv (.val (.int .i64 0))⟩] [] [0, 1, 2])
  (.seq
  (.seq
  (.reg [⟨some 7, none, .mv (.val (.int .i64 0))⟩] [] [0, 1, 2, 7])
  (.blk 0 (.loop (.seq
  (.seq
  (.reg [⟨some 8, none, .mv (.tmp 7)⟩,
    ⟨some 9, none, .mv (.tmp 0)⟩,
    ⟨some 10, none, .len (.tmp 9)⟩,
    ⟨some 11, none, .bin .lss (.tmp 8) (.tmp 10)⟩] [] [0, 1, 2, 7, 11])
  (.cond (.tmp 11)
  (.skip)
  (.ext 0)))
  (.seq
  (.blk 1 (.seq
  (.reg [⟨some 14, none, .mv (.tmp 0)⟩,
    ⟨some 15, none, .mv (.tmp 7)⟩,
    ⟨some 16, none, .iaS 3 (.tmp 14) (.tmp 15)⟩,
    ⟨some 17, none, .faddr 0 (.tmp 16)⟩,
    ⟨some 18, none, .ld none (.tmp 17)⟩,
    ⟨some 19, none, .mv (.tmp 1)⟩,
    ⟨some 20, none, .bin .eql (.tmp 18) (.tmp 19)⟩,
    ⟨some 21, none, .mv (.tmp 20)⟩,
    ⟨some 22, (some (21, true)), .mv (.tmp 0)⟩,
    ⟨some 23, (some (21, true)), .mv (.tmp 7)⟩,
    ⟨some 24, (some (21, true)), .iaS 3 (.tmp 22) (.tmp 23)⟩,
    ⟨some 25, (some (21, true)), .faddr 1 (.tmp 24)⟩,
    ⟨some 26, (some (21, true)), .ld none (.tmp 25)⟩,
    ⟨some 27, (some (21, true)), .mv (.tmp 2)⟩,
    ⟨some 28, (some (21, true)), .bin .eql (.tmp 26) (.tmp 27)⟩,
    ⟨some 29, none, .pick (.tmp 21) (.tmp 28) (.val (.bool false))⟩] [] [0, 1, 2, 7, 29])
  (.cond (.tmp 29)
  (.seq
  (.reg [⟨some 30, none, .mv (.tmp 7)⟩,
    ⟨some 6, none, .mv (.tmp 30)⟩] [] [6])
  (.ret))
  (.skip))))
  (.reg [⟨some 12, none, .mv (.tmp 7)⟩,
    ⟨some 13, none, .bin .add (.tmp 12) (.val (.int .i64 1))⟩,
    ⟨some 7, none, .mv (.tmp 13)⟩] [] [0, 1, 2, 7]))))))
  (.seq
  (.reg [⟨some 6, none, .mv (.val (.int .i64 (-1)))⟩] [] [6])
  (.ret)))⟩
theorem pf22_ok : fnOk Try.prog 22 pf22 = true := by kernel_rfl

/-- hinterland/hinterlandref13.Grow -/
def pf15 : PFn := ⟨112, 5, [.tmp 10, .tmp 11], .seq
  (.reg [⟨some 10, none, .mv (.val (.list .nil 1 []))⟩,
    ⟨some 11, none, .mv (.val (.int .i64 0))⟩] [] [0, 1, 2, 3, 4])
  (.seq
  (.seq
  (.reg [⟨some 17, none, .mv (.tmp 0)⟩,
    ⟨some 18, none, .mv (.tmp 1)⟩,
    ⟨some 19, none, .call 21 .pure [(.tmp 17), (.tmp 18)]⟩,
    ⟨some 12, none, .mv (.tmp 19)⟩] [] [0, 1, 2, 3, 4, 12])
  (.seq
  (.reg [⟨some 20, none, .mv (.tmp 12)⟩,
    ⟨some 21, none, .bin .neq (.tmp 20) (.val (.int .i64 0))⟩] [] [0, 1, 2, 3, 4, 12, 21])
  (.cond (.tmp 21)
  (.seq
  (.reg [⟨some 22, none, .mv (.tmp 12)⟩,
    ⟨some 10, none, .mv (.val (.list .nil 1 []))⟩,
    ⟨some 11, none, .mv (.tmp 22)⟩] [] [10, 11])
  (.ret))
  (.skip))))
  (.seq
  (.seq
  (.reg [⟨some 23, none, .mv (.tmp 2)⟩,
    ⟨some 24, none, .bin .lss (.tmp 23) (.val (.int .i64 0))⟩,
    ⟨some 25, none, .mv (.tmp 24)⟩,
    ⟨some 26, (some (25, false)), .mv (.tmp 2)⟩,
    ⟨some 27, (some (25, false)), .mv (.tmp 0)⟩,
    ⟨some 28, (some (25, false)), .bin .geq (.tmp 26) (.tmp 27)⟩,
    ⟨some 29, none, .pick (.tmp 25) (.val (.bool true)) (.tmp 28)⟩,
    ⟨some 30, none, .mv (.tmp 29)⟩,
    ⟨some 31, (some (30, false)), .mv (.tmp 3)⟩,
    ⟨some 32, (some (30, false)), .bin .lss (.tmp 31) (.val (.int .i64 0))⟩,
    ⟨some 33, none, .pick (.tmp 30) (.val (.bool true)) (.tmp 32)⟩,
    ⟨some 34, none, .mv (.tmp 33)⟩,
    ⟨some 35, (some (34, false)), .mv (.tmp 3)⟩,
    ⟨some 36, (some (34, false)), .mv (.tmp 0)⟩,
    ⟨some 37, (some (34, false)), .bin .geq (.tmp 35) (.tmp 36)⟩,
    ⟨some 38, none, .pick (.tmp 34) (.val (.bool true)) (.tmp 37)⟩] [] [1, 2, 3, 4, 38])
  (.cond (.tmp 38)
  (.seq
  (.reg [⟨some 10, none, .mv (.val (.list .nil 1 []))⟩,
    ⟨some 11, none, .mv (.val (.int .i64 2))⟩] [] [10, 11])
  (.ret))
  (.skip)))
  (.seq
  (.seq
  (.reg [⟨some 39, none, .mv (.tmp 4)⟩,
    ⟨some 40, none, .bin .lss (.tmp 39) (.val (.int .i64 1))⟩,
    ⟨some 41, none, .mv (.tmp 40)⟩,
    ⟨some 42, (some (41, false)), .mv (.tmp 4)⟩,
    ⟨some 43, (some (41, false)), .bin .gtr (.tmp 42) (.val (.int .i64 1000000))⟩,
    ⟨some 44, none, .pick (.tmp 41) (.val (.bool true)) (.tmp 43)⟩,
    ⟨some 45, none, .mv (.tmp 44)⟩,
    ⟨some 46, (some (45, false)), .mv (.tmp 2)⟩,
    ⟨some 47, (some (45, false)), .mv (.tmp 3)⟩,
    ⟨some 48, (some (45, false)), .bin .eql (.tmp 46) (.tmp 47)⟩,
    ⟨some 49, none, .pick (.tmp 45) (.val (.bool true)) (.tmp 48)⟩] [] [1, 2, 3, 4, 49])
  (.cond (.tmp 49)
  (.seq
  (.reg [⟨some 10, none, .mv (.val (.list .nil 1 []))⟩,
    ⟨some 11, none, .mv (.val (.int .i64 1))⟩] [] [10, 11])
  (.ret))
  (.skip)))
  (.seq
  (.reg [⟨some 50, none, .mv (.tmp 2)⟩,
    ⟨some 51, none, .mv (.tmp 3)⟩,
    ⟨some 52, none, .mv (.tmp 4)⟩,
    ⟨some 53, none, .bld [(.int .i64 0), (.int .i64 0), (.int .i64 0)] [(0, 1, (.tmp 50)), (1, 1, (.tmp 51)), (2, 1, (.tmp 52))]⟩,
    ⟨some 13, none, .zer 36 (.agg [(.int .i64 0), (.int .i64 0), (.int .i64 0)])⟩,
    ⟨none, none, .st 3 (.tmp 13) (.tmp 53)⟩] [] [1, 2, 3, 4, 13])
  (.seq
  (.reg [⟨some 54, none, .bsl 0 3 [(.int .i64 0), (.int .i64 0), (.int .i64 0)] []⟩,
    ⟨some 55, none, .mv (.tmp 1)⟩,
    ⟨some 56, none, .app 36 3 24 (.tmp 54) (.tmp 55)⟩,
    ⟨some 14, none, .mv (.tmp 56)⟩] [] [2, 3, 4, 13, 14])
  (.seq
  (.seq
  (.reg [⟨some 57, none, .mv (.tmp 14)⟩,
    ⟨some 58, none, .mv (.tmp 2)⟩,
    ⟨some 59, none, .mv (.tmp 3)⟩,
    ⟨some 60, none, .call 22 .pure [(.tmp 57), (.tmp 58), (.tmp 59)]⟩,
    ⟨some 15, none, .mv (.tmp 60)⟩] [] [4, 13, 14, 15])
  (.seq
  (.reg [⟨some 61, none, .mv (.tmp 15)⟩,
    ⟨some 62, none, .bin .geq (.tmp 61) (.val (.int .i64 0))⟩] [] [4, 13, 14, 15, 62])
  (.cond (.tmp 62)
  (.seq
  (.reg [⟨some 63, none, .mv (.tmp 14)⟩,
    ⟨some 64, none, .mv (.tmp 15)⟩,
    ⟨some 65, none, .mv (.tmp 14)⟩,
    ⟨some 66, none, .mv (.tmp 15)⟩,
    ⟨some 67, none, .iaS 3 (.tmp 65) (.tmp 66)⟩,
    ⟨some 68, none, .faddr 2 (.tmp 67)⟩,
    ⟨some 69, none, .ld none (.tmp 68)⟩,
    ⟨some 70, none, .mv (.tmp 4)⟩,
    ⟨some 71, none, .mx (.tmp 69) [(.tmp 70)]⟩,
    ⟨some 72, none, .iaS 3 (.tmp 63) (.tmp 64)⟩,
    ⟨some 73, none, .faddr 2 (.tmp 72)⟩,
    ⟨none, none, .st 1 (.tmp 73) (.tmp 71)⟩] [] [14])
  (.seq
  (.reg [⟨some 74, none, .mv (.tmp 14)⟩,
    ⟨some 10, none, .mv (.tmp 74)⟩,
    ⟨some 11, none, .mv (.val (.int .i64 0))⟩] [] [10, 11])
  (.ret)))
  (.skip))))
  (.seq
  (.reg [⟨some 75, none, .mv (.tmp 14)⟩,
    ⟨some 76, none, .ld (some 3) (.tmp 13)⟩,
    ⟨some 77, none, .bsl 1 3 [(.int .i64 0), (.int .i64 0), (.int .i64 0)] [(0, 3, (.tmp 76))]⟩,
    ⟨some 78, none, .app 36 3 24 (.tmp 75) (.tmp 77)⟩,
    ⟨some 14, none, .mv (.tmp 78)⟩] [] [13, 14])
  (.seq
  (.seq
  (.reg [⟨some 79, none, .mv (.tmp 14)⟩,
    ⟨some 80, none, .len (.tmp 79)⟩,
    ⟨some 81, none, .bin .sub (.tmp 80) (.val (.int .i64 1))⟩,
    ⟨some 16, none, .mv (.tmp 81)⟩] [] [13, 14, 16])
  (.blk 0 (.loop (.seq
  (.seq
  (.reg [⟨some 82, none, .mv (.tmp 16)⟩,
    ⟨some 83, none, .bin .gtr (.tmp 82) (.val (.int .i64 0))⟩,
    ⟨some 84, none, .mv (.tmp 83)⟩,
    ⟨some 85, (some (84, true)), .mv (.tmp 14)⟩,
    ⟨some 86, (some (84, true)), .mv (.tmp 16)⟩,
    ⟨some 87, (some (84, true)), .iaS 3 (.tmp 85) (.tmp 86)⟩,
    ⟨some 88, (some (84, true)), .ld (some 3) (.tmp 87)⟩,
    ⟨some 89, (some (84, true)), .mv (.tmp 14)⟩,
    ⟨some 90, (some (84, true)), .mv (.tmp 16)⟩,
    ⟨some 91, (some (84, true)), .bin .sub (.tmp 90) (.val (.int .i64 1))⟩,
    ⟨some 92, (some (84, true)), .iaS 3 (.tmp 89) (.tmp 91)⟩,
    ⟨some 93, (some (84, true)), .ld (some 3) (.tmp 92)⟩,
    ⟨some 94, (some (84, true)), .call 23 .pure [(.tmp 88), (.tmp 93)]⟩,
    ⟨some 95, none, .pick (.tmp 84) (.tmp 94) (.val (.bool false))⟩] [] [13, 14, 16, 95])
  (.cond (.tmp 95)
  (.skip)
  (.ext 0)))
  (.seq
  (.blk 1 (.seq
  (.reg [⟨some 98, none, .mv (.tmp 14)⟩,
    ⟨some 99, none, .mv (.tmp 16)⟩,
    ⟨some 100, none, .mv (.tmp 14)⟩,
    ⟨some 101, none, .mv (.tmp 16)⟩,
    ⟨some 102, none, .bin .sub (.tmp 101) (.val (.int .i64 1))⟩,
    ⟨some 103, none, .iaS 3 (.tmp 100) (.tmp 102)⟩,
    ⟨some 104, none, .ld (some 3) (.tmp 103)⟩,
    ⟨some 105, none, .iaS 3 (.tmp 98) (.tmp 99)⟩,
    ⟨none, none, .st 3 (.tmp 105) (.tmp 104)⟩] [] [13, 14, 16])
  (.reg [⟨some 106, none, .mv (.tmp 14)⟩,
    ⟨some 107, none, .mv (.tmp 16)⟩,
    ⟨some 108, none, .bin .sub (.tmp 107) (.val (.int .i64 1))⟩,
    ⟨some 109, none, .ld (some 3) (.tmp 13)⟩,
    ⟨some 110, none, .iaS 3 (.tmp 106) (.tmp 108)⟩,
    ⟨none, none, .st 3 (.tmp 110) (.tmp 109)⟩] [] [13, 14, 16])))
  (.reg [⟨some 96, none, .mv (.tmp 16)⟩,
    ⟨some 97, none, .bin .sub (.tmp 96) (.val (.int .i64 1))⟩,
    ⟨some 16, none, .mv (.tmp 97)⟩] [] [13, 14, 16]))))))
  (.seq
  (.reg [⟨some 111, none, .mv (.tmp 14)⟩,
    ⟨some 10, none, .mv (.tmp 111)⟩,
    ⟨some 11, none, .mv (.val (.int .i64 0))⟩] [] [10, 11])
  (.ret))))))))))⟩
theorem pf15_ok : fnOk Try.prog 15 pf15 = true := by kernel_rfl

/-- slices.Clone[[]hinterland/api.Link,hinterland/api.Link] -/
def pf24 : PFn := ⟨8, 1, [.tmp 2], .seq
  (.reg [⟨some 2, none, .mv (.val (.list .nil 1 []))⟩] [] [0])
  (.seq
  (.seq
  (.reg [⟨some 3, none, .mv (.tmp 0)⟩,
    ⟨some 4, none, .eqn false (.tmp 3) (.val (.list .nil 1 []))⟩] [] [0, 4])
  (.cond (.tmp 4)
  (.seq
  (.reg [⟨some 2, none, .mv (.val (.list .nil 1 []))⟩] [] [2])
  (.ret))
  (.skip)))
  (.seq
  (.reg [⟨some 5, none, .bsl 0 3 [(.int .i64 0), (.int .i64 0), (.int .i64 0)] []⟩,
    ⟨some 6, none, .mv (.tmp 0)⟩,
    ⟨some 7, none, .app 36 3 24 (.tmp 5) (.tmp 6)⟩,
    ⟨some 2, none, .mv (.tmp 7)⟩] [] [2])
  (.ret)))⟩
theorem pf24_ok : fnOk Try.prog 24 pf24 = true := by kernel_rfl

/-- slices.BinarySearchFunc[[]hinterland/api.Link,hinterland/api.Link,hinterland/api.Link] -/
def pf25 : PFn := ⟨49, 3, [.tmp 6, .tmp 7], .seq
  (.reg [⟨some 4, none, .boxp 36 (.tmp 1)⟩,
    ⟨some 6, none, .mv (.val (.int .i64 0))⟩,
    ⟨some 7, none, .mv (.val (.bool false))⟩] [] [0, 2, 4])
  (.seq
  (.reg [⟨some 12, none, .mv (.tmp 0)⟩,
    ⟨some 13, none, .len (.tmp 12)⟩,
    ⟨some 8, none, .mv (.tmp 13)⟩] [] [0, 2, 4, 8])
  (.seq
  (.reg [⟨some 14, none, .mv (.tmp 8)⟩,
    ⟨some 9, none, .mv (.val (.int .i64 0))⟩,
    ⟨some 10, none, .mv (.tmp 14)⟩] [] [0, 2, 4, 8, 9, 10])
  (.seq
  (.blk 0 (.loop (.seq
  (.seq
  (.reg [⟨some 15, none, .mv (.tmp 9)⟩,
    ⟨some 16, none, .mv (.tmp 10)⟩,
    ⟨some 17, none, .bin .lss (.tmp 15) (.tmp 16)⟩] [] [0, 2, 4, 8, 9, 10, 17])
  (.cond (.tmp 17)
  (.skip)
  (.ext 0)))
  (.blk 1 (.seq
  (.reg [⟨some 18, none, .mv (.tmp 9)⟩,
    ⟨some 19, none, .mv (.tmp 10)⟩,
    ⟨some 20, none, .bin .add (.tmp 18) (.tmp 19)⟩,
    ⟨some 21, none, .conv .u64 (.tmp 20)⟩,
    ⟨some 22, none, .bin .shr (.tmp 21) (.val (.int .u64 1))⟩,
    ⟨some 23, none, .conv .i64 (.tmp 22)⟩,
    ⟨some 11, none, .mv (.tmp 23)⟩] [] [0, 2, 4, 8, 9, 10, 11])
  (.seq
  (.reg [⟨some 24, none, .mv (.tmp 2)⟩,
    ⟨some 25, none, .mv (.tmp 0)⟩,
    ⟨some 26, none, .mv (.tmp 11)⟩,
    ⟨some 27, none, .iaS 3 (.tmp 25) (.tmp 26)⟩,
    ⟨some 28, none, .ld (some 3) (.tmp 27)⟩,
    ⟨some 29, none, .ld (some 3) (.tmp 4)⟩,
    ⟨some 30, none, .callv (.tmp 24) .pure [(.tmp 28), (.tmp 29)]⟩,
    ⟨some 31, none, .bin .lss (.tmp 30) (.val (.int .i64 0))⟩] [] [0, 2, 4, 8, 9, 10, 11, 31])
  (.cond (.tmp 31)
  (.reg [⟨some 32, none, .mv (.tmp 11)⟩,
    ⟨some 33, none, .bin .add (.tmp 32) (.val (.int .i64 1))⟩,
    ⟨some 9, none, .mv (.tmp 33)⟩] [] [0, 2, 4, 8, 9, 10])
  (.reg [⟨some 34, none, .mv (.tmp 11)⟩,
    ⟨some 10, none, .mv (.tmp 34)⟩] [] [0, 2, 4, 8, 9, 10]))))))))
  (.seq
  (.reg [⟨some 35, none, .mv (.tmp 9)⟩,
    ⟨some 36, none, .mv (.tmp 9)⟩,
    ⟨some 37, none, .mv (.tmp 8)⟩,
    ⟨some 38, none, .bin .lss (.tmp 36) (.tmp 37)⟩,
    ⟨some 39, none, .mv (.tmp 38)⟩,
    ⟨some 40, (some (39, true)), .mv (.tmp 2)⟩,
    ⟨some 41, (some (39, true)), .mv (.tmp 0)⟩,
    ⟨some 42, (some (39, true)), .mv (.tmp 9)⟩,
    ⟨some 43, (some (39, true)), .iaS 3 (.tmp 41) (.tmp 42)⟩,
    ⟨some 44, (some (39, true)), .ld (some 3) (.tmp 43)⟩,
    ⟨some 45, (some (39, true)), .ld (some 3) (.tmp 4)⟩,
    ⟨some 46, (some (39, true)), .callv (.tmp 40) .pure [(.tmp 44), (.tmp 45)]⟩,
    ⟨some 47, (some (39, true)), .bin .eql (.tmp 46) (.val (.int .i64 0))⟩,
    ⟨some 48, none, .pick (.tmp 39) (.tmp 47) (.val (.bool false))⟩,
    ⟨some 6, none, .mv (.tmp 35)⟩,
    ⟨some 7, none, .mv (.tmp 48)⟩] [] [6, 7])
  (.ret)))))⟩
theorem pf25_ok : fnOk Try.prog 25 pf25 = true := by kernel_rfl

/-- slices.Insert[[]hinterland/api.Link,hinterland/api.Link] -/
def pf27 : PFn := ⟨95, 3, [.tmp 6], .seq
  (.reg [⟨some 6, none, .mv (.val (.list .nil 1 []))⟩] [] [0, 1, 2])
  (.seq
  (.reg [⟨some 10, none, .mv (.tmp 0)⟩,
    ⟨some 11, none, .mv (.tmp 1)⟩,
    ⟨some 12, none, .slc 3 (.tmp 10) (some (.tmp 11)) none none⟩] [] [0, 1, 2])
  (.seq
  (.reg [⟨some 13, none, .mv (.tmp 2)⟩,
    ⟨some 14, none, .len (.tmp 13)⟩,
    ⟨some 7, none, .mv (.tmp 14)⟩] [] [0, 1, 2, 7])
  (.seq
  (.seq
  (.reg [⟨some 15, none, .mv (.tmp 7)⟩,
    ⟨some 16, none, .bin .eql (.tmp 15) (.val (.int .i64 0))⟩] [] [0, 1, 2, 7, 16])
  (.cond (.tmp 16)
  (.seq
  (.reg [⟨some 17, none, .mv (.tmp 0)⟩,
    ⟨some 6, none, .mv (.tmp 17)⟩] [] [6])
  (.ret))
  (.skip)))
  (.seq
  (.reg [⟨some 18, none, .mv (.tmp 0)⟩,
    ⟨some 19, none, .len (.tmp 18)⟩,
    ⟨some 8, none, .mv (.tmp 19)⟩] [] [0, 1, 2, 7, 8])
  (.seq
  (.seq
  (.reg [⟨some 20, none, .mv (.tmp 1)⟩,
    ⟨some 21, none, .mv (.tmp 8)⟩,
    ⟨some 22, none, .bin .eql (.tmp 20) (.tmp 21)⟩] [] [0, 1, 2, 7, 8, 22])
  (.cond (.tmp 22)
  (.seq
  (.reg [⟨some 23, none, .mv (.tmp 0)⟩,
    ⟨some 24, none, .mv (.tmp 2)⟩,
    ⟨some 25, none, .app 36 3 24 (.tmp 23) (.tmp 24)⟩,
    ⟨some 6, none, .mv (.tmp 25)⟩] [] [6])
  (.ret))
  (.skip)))
  (.seq
  (.seq
  (.reg [⟨some 26, none, .mv (.tmp 8)⟩,
    ⟨some 27, none, .mv (.tmp 7)⟩,
    ⟨some 28, none, .bin .add (.tmp 26) (.tmp 27)⟩,
    ⟨some 29, none, .mv (.tmp 0)⟩,
    ⟨some 30, none, .bad⟩,
    ⟨some 31, none, .bin .gtr (.tmp 28) (.tmp 30)⟩] [] [0, 1, 2, 7, 8, 31])
  (.cond (.tmp 31)
  (.seq
  (.reg [⟨some 32, none, .mv (.tmp 0)⟩,
    ⟨some 33, none, .mv (.tmp 1)⟩,
    ⟨some 34, none, .slc 3 (.tmp 32) none (some (.tmp 33)) none⟩,
    ⟨some 35, none, .mv (.tmp 8)⟩,
    ⟨some 36, none, .mv (.tmp 7)⟩,
    ⟨some 37, none, .bin .add (.tmp 35) (.tmp 36)⟩,
    ⟨some 38, none, .mv (.tmp 1)⟩,
    ⟨some 39, none, .bin .sub (.tmp 37) (.tmp 38)⟩,
    ⟨some 40, none, .bad⟩,
    ⟨some 9, none, .mv (.tmp 40)⟩] [] [0, 1, 2, 7, 9])
  (.seq
  (.reg [⟨some 41, none, .mv (.tmp 9)⟩,
    ⟨some 42, none, .mv (.tmp 1)⟩,
    ⟨some 43, none, .slc 3 (.tmp 41) (some (.tmp 42)) none none⟩,
    ⟨some 44, none, .mv (.tmp 2)⟩,
    ⟨some 45, none, .bad⟩] [] [0, 1, 7, 9])
  (.seq
  (.reg [⟨some 46, none, .mv (.tmp 9)⟩,
    ⟨some 47, none, .mv (.tmp 1)⟩,
    ⟨some 48, none, .mv (.tmp 7)⟩,
    ⟨some 49, none, .bin .add (.tmp 47) (.tmp 48)⟩,
    ⟨some 50, none, .slc 3 (.tmp 46) (some (.tmp 49)) none none⟩,
    ⟨some 51, none, .mv (.tmp 0)⟩,
    ⟨some 52, none, .mv (.tmp 1)⟩,
    ⟨some 53, none, .slc 3 (.tmp 51) (some (.tmp 52)) none none⟩,
    ⟨some 54, none, .bad⟩] [] [9])
  (.seq
  (.reg [⟨some 55, none, .mv (.tmp 9)⟩,
    ⟨some 6, none, .mv (.tmp 55)⟩] [] [6])
  (.ret)))))
  (.skip)))
  (.seq
  (.reg [⟨some 56, none, .mv (.tmp 0)⟩,
    ⟨some 57, none, .mv (.tmp 8)⟩,
    ⟨some 58, none, .mv (.tmp 7)⟩,
    ⟨some 59, none, .bin .add (.tmp 57) (.tmp 58)⟩,
    ⟨some 60, none, .slc 3 (.tmp 56) none (some (.tmp 59)) none⟩,
    ⟨some 0, none, .mv (.tmp 60)⟩] [] [0, 1, 2, 7, 8])
  (.seq
  (.seq
  (.reg [⟨some 61, none, .mv (.tmp 2)⟩,
    ⟨some 62, none, .mv (.tmp 0)⟩,
    ⟨some 63, none, .mv (.tmp 1)⟩,
    ⟨some 64, none, .mv (.tmp 7)⟩,
    ⟨some 65, none, .bin .add (.tmp 63) (.tmp 64)⟩,
    ⟨some 66, none, .slc 3 (.tmp 62) (some (.tmp 65)) none none⟩,
    ⟨some 67, none, .call 32 .pure [(.tmp 61), (.tmp 66)]⟩,
    ⟨some 68, none, .un .not (.tmp 67)⟩] [] [0, 1, 2, 7, 8, 68])
  (.cond (.tmp 68)
  (.seq
  (.reg [⟨some 69, none, .mv (.tmp 0)⟩,
    ⟨some 70, none, .mv (.tmp 1)⟩,
    ⟨some 71, none, .mv (.tmp 7)⟩,
    ⟨some 72, none, .bin .add (.tmp 70) (.tmp 71)⟩,
    ⟨some 73, none, .slc 3 (.tmp 69) (some (.tmp 72)) none none⟩,
    ⟨some 74, none, .mv (.tmp 0)⟩,
    ⟨some 75, none, .mv (.tmp 1)⟩,
    ⟨some 76, none, .slc 3 (.tmp 74) (some (.tmp 75)) none none⟩,
    ⟨some 77, none, .bad⟩] [] [0, 1, 2])
  (.seq
  (.reg [⟨some 78, none, .mv (.tmp 0)⟩,
    ⟨some 79, none, .mv (.tmp 1)⟩,
    ⟨some 80, none, .slc 3 (.tmp 78) (some (.tmp 79)) none none⟩,
    ⟨some 81, none, .mv (.tmp 2)⟩,
    ⟨some 82, none, .bad⟩] [] [0])
  (.seq
  (.reg [⟨some 83, none, .mv (.tmp 0)⟩,
    ⟨some 6, none, .mv (.tmp 83)⟩] [] [6])
  (.ret))))
  (.skip)))
  (.seq
  (.reg [⟨some 84, none, .mv (.tmp 0)⟩,
    ⟨some 85, none, .mv (.tmp 8)⟩,
    ⟨some 86, none, .slc 3 (.tmp 84) (some (.tmp 85)) none none⟩,
    ⟨some 87, none, .mv (.tmp 2)⟩,
    ⟨some 88, none, .bad⟩] [] [0, 1, 7])
  (.seq
  (.reg [⟨some 89, none, .mv (.tmp 0)⟩,
    ⟨some 90, none, .mv (.tmp 1)⟩,
    ⟨some 91, none, .slc 3 (.tmp 89) (some (.tmp 90)) none none⟩,
    ⟨some 92, none, .mv (.tmp 7)⟩,
    ⟨some 93, none, .call 33 .pure [(.tmp 91), (.tmp 92)]⟩] [] [0])
  (.seq
  (.reg [⟨some 94, none, .mv (.tmp 0)⟩,
    ⟨some 6, none, .mv (.tmp 94)⟩] [] [6])
  (.ret))))))))))))⟩
theorem pf27_ok : fnOk Try.prog 27 pf27 = true := by kernel_rfl

/-- hinterland/flow.Grow -/
def pf16 : PFn := ⟨79, 5, [.tmp 10, .tmp 11], .seq
  (.reg [⟨some 10, none, .mv (.val (.list .nil 1 []))⟩,
    ⟨some 11, none, .mv (.val (.int .i64 0))⟩] [] [0, 1, 2, 3, 4])
  (.seq
  (.seq
  (.reg [⟨some 17, none, .mv (.tmp 0)⟩,
    ⟨some 18, none, .mv (.tmp 1)⟩,
    ⟨some 19, none, .call 17 .pure [(.tmp 17), (.tmp 18)]⟩,
    ⟨some 12, none, .mv (.tmp 19)⟩] [] [0, 1, 2, 3, 4, 12])
  (.seq
  (.reg [⟨some 20, none, .mv (.tmp 12)⟩,
    ⟨some 21, none, .bin .neq (.tmp 20) (.val (.int .i64 0))⟩] [] [0, 1, 2, 3, 4, 12, 21])
  (.cond (.tmp 21)
  (.seq
  (.reg [⟨some 22, none, .mv (.tmp 12)⟩,
    ⟨some 10, none, .mv (.val (.list .nil 1 []))⟩,
    ⟨some 11, none, .mv (.tmp 22)⟩] [] [10, 11])
  (.ret))
  (.skip))))
  (.seq
  (.blk 0 (.seq
  (.reg [⟨some 24, none, .mv (.tmp 2)⟩,
    ⟨some 25, none, .mv (.tmp 0)⟩,
    ⟨some 26, none, .bin .sub (.tmp 25) (.val (.int .i64 1))⟩,
    ⟨some 27, none, .call 19 .pure [(.tmp 24), (.tmp 26)]⟩,
    ⟨some 28, none, .un .not (.tmp 27)⟩,
    ⟨some 29, none, .mv (.tmp 28)⟩,
    ⟨some 30, (some (29, false)), .mv (.tmp 3)⟩,
    ⟨some 31, (some (29, false)), .mv (.tmp 0)⟩,
    ⟨some 32, (some (29, false)), .bin .sub (.tmp 31) (.val (.int .i64 1))⟩,
    ⟨some 33, (some (29, false)), .call 19 .pure [(.tmp 30), (.tmp 32)]⟩,
    ⟨some 34, (some (29, false)), .un .not (.tmp 33)⟩,
    ⟨some 35, none, .pick (.tmp 29) (.val (.bool true)) (.tmp 34)⟩,
    ⟨some 23, none, .mv (.tmp 35)⟩] [] [1, 2, 3, 4, 23])
  (.cond (.tmp 23)
  (.seq
  (.reg [⟨some 10, none, .mv (.val (.list .nil 1 []))⟩,
    ⟨some 11, none, .mv (.val (.int .i64 2))⟩] [] [10, 11])
  (.ret))
  (.seq
  (.reg [⟨some 37, none, .mv (.tmp 4)⟩,
    ⟨some 38, none, .bin .lss (.tmp 37) (.val (.int .i64 1))⟩,
    ⟨some 39, none, .mv (.tmp 38)⟩,
    ⟨some 40, (some (39, false)), .mv (.tmp 4)⟩,
    ⟨some 41, (some (39, false)), .bin .gtr (.tmp 40) (.val (.int .i64 1000000))⟩,
    ⟨some 42, none, .pick (.tmp 39) (.val (.bool true)) (.tmp 41)⟩,
    ⟨some 43, none, .mv (.tmp 42)⟩,
    ⟨some 44, (some (43, false)), .mv (.tmp 2)⟩,
    ⟨some 45, (some (43, false)), .mv (.tmp 3)⟩,
    ⟨some 46, (some (43, false)), .bin .eql (.tmp 44) (.tmp 45)⟩,
    ⟨some 47, none, .pick (.tmp 43) (.val (.bool true)) (.tmp 46)⟩,
    ⟨some 36, none, .mv (.tmp 47)⟩] [] [1, 2, 3, 4, 36])
  (.cond (.tmp 36)
  (.seq
  (.reg [⟨some 10, none, .mv (.val (.list .nil 1 []))⟩,
    ⟨some 11, none, .mv (.val (.int .i64 1))⟩] [] [10, 11])
  (.ret))
  (.skip))))))
  (.seq
  (.reg [⟨some 48, none, .mv (.tmp 2)⟩,
    ⟨some 49, none, .mv (.tmp 3)⟩,
    ⟨some 50, none, .mv (.tmp 4)⟩,
    ⟨some 51, none, .bld [(.int .i64 0), (.int .i64 0), (.int .i64 0)] [(0, 1, (.tmp 48)), (1, 1, (.tmp 49)), (2, 1, (.tmp 50))]⟩,
    ⟨some 13, none, .zer 36 (.agg [(.int .i64 0), (.int .i64 0), (.int .i64 0)])⟩,
    ⟨none, none, .st 3 (.tmp 13) (.tmp 51)⟩] [] [1, 4, 13])
  (.seq
  (.reg [⟨some 52, none, .mv (.tmp 1)⟩,
    ⟨some 53, none, .call 24 .pure [(.tmp 52)]⟩,
    ⟨some 14, none, .mv (.tmp 53)⟩] [] [4, 13, 14])
  (.seq
  (.reg [⟨some 55, none, .mv (.tmp 14)⟩,
    ⟨some 56, none, .ld (some 3) (.tmp 13)⟩,
    ⟨some 57, none, .call 25 .pure [(.tmp 55), (.tmp 56), (.val (.clo (.func 26) [] []))]⟩,
    ⟨some 54, none, .mv (.tmp 57)⟩,
    ⟨some 58, none, .ext 0 (.tmp 54)⟩,
    ⟨some 59, none, .ext 1 (.tmp 54)⟩,
    ⟨some 15, none, .mv (.tmp 58)⟩,
    ⟨some 16, none, .mv (.tmp 59)⟩] [] [4, 13, 14, 15, 16])
  (.seq
  (.seq
  (.reg [⟨some 60, none, .mv (.tmp 16)⟩,
    ⟨some 61, none, .un .not (.tmp 60)⟩] [] [4, 13, 14, 15, 61])
  (.cond (.tmp 61)
  (.seq
  (.reg [⟨some 62, none, .mv (.tmp 14)⟩,
    ⟨some 63, none, .mv (.tmp 15)⟩,
    ⟨some 64, none, .ld (some 3) (.tmp 13)⟩,
    ⟨some 65, none, .bsl 1 3 [(.int .i64 0), (.int .i64 0), (.int .i64 0)] [(0, 3, (.tmp 64))]⟩,
    ⟨some 66, none, .call 27 .pure [(.tmp 62), (.tmp 63), (.tmp 65)]⟩,
    ⟨some 10, none, .mv (.tmp 66)⟩,
    ⟨some 11, none, .mv (.val (.int .i64 0))⟩] [] [10, 11])
  (.ret))
  (.skip)))
  (.seq
  (.reg [⟨some 67, none, .mv (.tmp 14)⟩,
    ⟨some 68, none, .mv (.tmp 15)⟩,
    ⟨some 69, none, .mv (.tmp 14)⟩,
    ⟨some 70, none, .mv (.tmp 15)⟩,
    ⟨some 71, none, .iaS 3 (.tmp 69) (.tmp 70)⟩,
    ⟨some 72, none, .faddr 2 (.tmp 71)⟩,
    ⟨some 73, none, .ld none (.tmp 72)⟩,
    ⟨some 74, none, .mv (.tmp 4)⟩,
    ⟨some 75, none, .mx (.tmp 73) [(.tmp 74)]⟩,
    ⟨some 76, none, .iaS 3 (.tmp 67) (.tmp 68)⟩,
    ⟨some 77, none, .faddr 2 (.tmp 76)⟩,
    ⟨none, none, .st 1 (.tmp 77) (.tmp 75)⟩] [] [14])
  (.seq
  (.reg [⟨some 78, none, .mv (.tmp 14)⟩,
    ⟨some 10, none, .mv (.tmp 78)⟩,
    ⟨some 11, none, .mv (.val (.int .i64 0))⟩] [] [10, 11])
  (.ret)))))))))⟩
theorem pf16_ok : fnOk Try.prog 16 pf16 = true := by kernel_rfl

/-- hinterland/hinterlandlaw13.FlowFades -/
def pf4 : PFn := ⟨39, 3, [.tmp 6], .seq
  (.reg [⟨some 6, none, .mv (.val (.bool false))⟩] [] [0, 1, 2])
  (.seq
  (.seq
  (.reg [⟨some 11, none, .mv (.tmp 1)⟩,
    ⟨some 12, none, .call 11 .pure [(.tmp 11), (.val (.list .nil 4 [])), (.val (.list .nil 1 []))]⟩] [] [0, 1, 2, 12])
  (.cond (.tmp 12)
  (.seq
  (.reg [⟨some 13, none, .call 7 .pure []⟩,
    ⟨some 6, none, .mv (.tmp 13)⟩] [] [6])
  (.ret))
  (.skip)))
  (.seq
  (.reg [⟨some 15, none, .mv (.tmp 0)⟩,
    ⟨some 16, none, .mv (.tmp 1)⟩,
    ⟨some 17, none, .mv (.tmp 2)⟩,
    ⟨some 18, none, .call 12 .pure [(.tmp 15), (.tmp 16), (.tmp 17)]⟩,
    ⟨some 14, none, .mv (.tmp 18)⟩,
    ⟨some 19, none, .ext 0 (.tmp 14)⟩,
    ⟨some 20, none, .ext 1 (.tmp 14)⟩,
    ⟨some 7, none, .mv (.tmp 19)⟩,
    ⟨some 8, none, .mv (.tmp 20)⟩] [] [0, 1, 2, 7, 8])
  (.seq
  (.reg [⟨some 22, none, .mv (.tmp 0)⟩,
    ⟨some 23, none, .mv (.tmp 1)⟩,
    ⟨some 24, none, .mv (.tmp 2)⟩,
    ⟨some 25, none, .call 13 .pure [(.tmp 22), (.tmp 23), (.tmp 24)]⟩,
    ⟨some 21, none, .mv (.tmp 25)⟩,
    ⟨some 26, none, .ext 0 (.tmp 21)⟩,
    ⟨some 27, none, .ext 1 (.tmp 21)⟩,
    ⟨some 9, none, .mv (.tmp 26)⟩,
    ⟨some 10, none, .mv (.tmp 27)⟩] [] [7, 8, 9, 10])
  (.seq
  (.reg [⟨some 28, none, .mv (.tmp 10)⟩,
    ⟨some 29, none, .mv (.tmp 8)⟩,
    ⟨some 30, none, .bin .eql (.tmp 28) (.tmp 29)⟩,
    ⟨some 31, none, .mv (.tmp 30)⟩,
    ⟨some 32, (some (31, true)), .mv (.tmp 9)⟩,
    ⟨some 33, (some (31, true)), .mv (.tmp 7)⟩,
    ⟨some 34, (some (31, true)), .call 14 .pure [(.tmp 32), (.tmp 33)]⟩,
    ⟨some 35, none, .pick (.tmp 31) (.tmp 34) (.val (.bool false))⟩,
    ⟨some 36, none, .mv (.tmp 35)⟩,
    ⟨some 37, (some (36, true)), .call 7 .pure []⟩,
    ⟨some 38, none, .pick (.tmp 36) (.tmp 37) (.val (.bool false))⟩,
    ⟨some 6, none, .mv (.tmp 38)⟩] [] [6])
  (.ret)))))⟩
theorem pf4_ok : fnOk Try.prog 4 pf4 = true := by kernel_rfl

/-- hinterland/hinterlandlaw13.FlowDemands -/
def pf3 : PFn := ⟨86, 1, [.tmp 2], .seq
  (.reg [⟨some 2, none, .mv (.val (.bool false))⟩] [] [0])
  (.seq
  (.seq
  (.reg [⟨some 11, none, .mv (.tmp 0)⟩,
    ⟨some 12, none, .len (.tmp 11)⟩,
    ⟨some 13, none, .bin .gtr (.tmp 12) (.val (.int .i64 300))⟩] [] [0, 13])
  (.cond (.tmp 13)
  (.seq
  (.reg [⟨some 14, none, .call 7 .pure []⟩,
    ⟨some 2, none, .mv (.tmp 14)⟩] [] [2])
  (.ret))
  (.skip)))
  (.seq
  (.reg [⟨some 16, none, .mv (.tmp 0)⟩,
    ⟨some 17, none, .call 8 .pure [(.tmp 16)]⟩,
    ⟨some 15, none, .mv (.tmp 17)⟩,
    ⟨some 18, none, .ext 0 (.tmp 15)⟩,
    ⟨some 19, none, .ext 1 (.tmp 15)⟩,
    ⟨some 3, none, .mv (.tmp 18)⟩,
    ⟨some 4, none, .mv (.tmp 19)⟩] [] [0, 3, 4])
  (.seq
  (.reg [⟨some 21, none, .mv (.tmp 0)⟩,
    ⟨some 22, none, .call 9 .pure [(.tmp 21)]⟩,
    ⟨some 20, none, .mv (.tmp 22)⟩,
    ⟨some 23, none, .ext 0 (.tmp 20)⟩,
    ⟨some 24, none, .ext 1 (.tmp 20)⟩,
    ⟨some 5, none, .mv (.tmp 23)⟩,
    ⟨some 6, none, .mv (.tmp 24)⟩] [] [0, 3, 4, 5, 6])
  (.seq
  (.seq
  (.reg [⟨some 25, none, .mv (.tmp 6)⟩,
    ⟨some 26, none, .mv (.tmp 4)⟩,
    ⟨some 27, none, .bin .neq (.tmp 25) (.tmp 26)⟩,
    ⟨some 28, none, .mv (.tmp 27)⟩,
    ⟨some 29, (some (28, false)), .mv (.tmp 5)⟩,
    ⟨some 30, (some (28, false)), .mv (.tmp 3)⟩,
    ⟨some 31, (some (28, false)), .call 10 .pure [(.tmp 29), (.tmp 30)]⟩,
    ⟨some 32, (some (28, false)), .un .not (.tmp 31)⟩,
    ⟨some 33, none, .pick (.tmp 28) (.val (.bool true)) (.tmp 32)⟩] [] [0, 5, 33])
  (.cond (.tmp 33)
  (.seq
  (.reg [⟨some 2, none, .mv (.val (.bool false))⟩] [] [2])
  (.ret))
  (.skip)))
  (.seq
  (.seq
  (.reg [⟨some 7, none, .mv (.val (.int .i64 0))⟩] [] [0, 5, 7])
  (.blk 0 (.loop (.seq
  (.seq
  (.reg [⟨some 34, none, .mv (.tmp 7)⟩,
    ⟨some 35, none, .mv (.tmp 5)⟩,
    ⟨some 36, none, .len (.tmp 35)⟩,
    ⟨some 37, none, .bin .lss (.tmp 34) (.tmp 36)⟩] [] [0, 5, 7, 37])
  (.cond (.tmp 37)
  (.skip)
  (.ext 0)))
  (.seq
  (.blk 1 (.seq
  (.reg [⟨some 8, none, .mv (.val (.int .i64 0))⟩,
    ⟨some 9, none, .mv (.val (.int .i64 0))⟩] [] [0, 5, 7, 8, 9])
  (.seq
  (.seq
  (.reg [⟨some 10, none, .mv (.val (.int .i64 0))⟩] [] [0, 5, 7, 8, 9, 10])
  (.blk 2 (.loop (.seq
  (.seq
  (.reg [⟨some 40, none, .mv (.tmp 10)⟩,
    ⟨some 41, none, .mv (.tmp 5)⟩,
    ⟨some 42, none, .mv (.tmp 7)⟩,
    ⟨some 43, none, .iaS 1 (.tmp 41) (.tmp 42)⟩,
    ⟨some 44, none, .ld none (.tmp 43)⟩,
    ⟨some 45, none, .len (.tmp 44)⟩,
    ⟨some 46, none, .bin .lss (.tmp 40) (.tmp 45)⟩] [] [0, 5, 7, 8, 9, 10, 46])
  (.cond (.tmp 46)
  (.skip)
  (.ext 2)))
  (.seq
  (.blk 3 (.seq
  (.reg [⟨some 49, none, .mv (.tmp 8)⟩,
    ⟨some 50, none, .mv (.tmp 5)⟩,
    ⟨some 51, none, .mv (.tmp 7)⟩,
    ⟨some 52, none, .iaS 1 (.tmp 50) (.tmp 51)⟩,
    ⟨some 53, none, .ld none (.tmp 52)⟩,
    ⟨some 54, none, .mv (.tmp 10)⟩,
    ⟨some 55, none, .iaS 1 (.tmp 53) (.tmp 54)⟩,
    ⟨some 56, none, .ld none (.tmp 55)⟩,
    ⟨some 57, none, .bin .add (.tmp 49) (.tmp 56)⟩,
    ⟨some 8, none, .mv (.tmp 57)⟩] [] [0, 5, 7, 8, 9, 10])
  (.seq
  (.reg [⟨some 58, none, .mv (.tmp 10)⟩,
    ⟨some 59, none, .mv (.tmp 7)⟩,
    ⟨some 60, none, .bin .neq (.tmp 58) (.tmp 59)⟩] [] [0, 5, 7, 8, 9, 10, 60])
  (.cond (.tmp 60)
  (.reg [⟨some 61, none, .mv (.tmp 9)⟩,
    ⟨some 62, none, .mv (.tmp 0)⟩,
    ⟨some 63, none, .mv (.tmp 10)⟩,
    ⟨some 64, none, .iaS 1 (.tmp 62) (.tmp 63)⟩,
    ⟨some 65, none, .ld none (.tmp 64)⟩,
    ⟨some 66, none, .bin .add (.tmp 61) (.tmp 65)⟩,
    ⟨some 9, none, .mv (.tmp 66)⟩] [] [0, 5, 7, 8, 9, 10])
  (.skip)))))
  (.reg [⟨some 47, none, .mv (.tmp 10)⟩,
    ⟨some 48, none, .bin .add (.tmp 47) (.val (.int .i64 1))⟩,
    ⟨some 10, none, .mv (.tmp 48)⟩] [] [0, 5, 7, 8, 9, 10]))))))
  (.seq
  (.reg [⟨some 67, none, .mv (.tmp 9)⟩,
    ⟨some 68, none, .bin .gtr (.tmp 67) (.val (.int .i64 0))⟩,
    ⟨some 69, none, .mv (.tmp 68)⟩,
    ⟨some 70, (some (69, true)), .mv (.tmp 8)⟩,
    ⟨some 71, (some (69, true)), .mv (.tmp 0)⟩,
    ⟨some 72, (some (69, true)), .mv (.tmp 7)⟩,
    ⟨some 73, (some (69, true)), .iaS 1 (.tmp 71) (.tmp 72)⟩,
    ⟨some 74, (some (69, true)), .ld none (.tmp 73)⟩,
    ⟨some 75, (some (69, true)), .bin .neq (.tmp 70) (.tmp 74)⟩,
    ⟨some 76, none, .pick (.tmp 69) (.tmp 75) (.val (.bool false))⟩,
    ⟨some 77, none, .mv (.tmp 76)⟩,
    ⟨some 78, (some (77, false)), .mv (.tmp 9)⟩,
    ⟨some 79, (some (77, false)), .bin .eql (.tmp 78) (.val (.int .i64 0))⟩,
    ⟨some 80, (some (77, false)), .mv (.tmp 79)⟩,
    ⟨some 81, (some (80, true)), .mv (.tmp 8)⟩,
    ⟨some 82, (some (80, true)), .bin .neq (.tmp 81) (.val (.int .i64 0))⟩,
    ⟨some 83, (some (77, false)), .pick (.tmp 80) (.tmp 82) (.val (.bool false))⟩,
    ⟨some 84, none, .pick (.tmp 77) (.val (.bool true)) (.tmp 83)⟩] [] [0, 5, 7, 84])
  (.cond (.tmp 84)
  (.seq
  (.reg [⟨some 2, none, .mv (.val (.bool false))⟩] [] [2])
  (.ret))
  (.skip))))))
  (.reg [⟨some 38, none, .mv (.tmp 7)⟩,
    ⟨some 39, none, .bin .add (.tmp 38) (.val (.int .i64 1))⟩,
    ⟨some 7, none, .mv (.tmp 39)⟩] [] [0, 5, 7]))))))
  (.seq
  (.reg [⟨some 85, none, .call 7 .pure []⟩,
    ⟨some 2, none, .mv (.tmp 85)⟩] [] [2])
  (.ret)))))))⟩
theorem pf3_ok : fnOk Try.prog 3 pf3 = true := by kernel_rfl

/-- hinterland/hinterlandlaw13.FlowGrows -/
def pf5 : PFn := ⟨47, 5, [.tmp 10], .seq
  (.reg [⟨some 10, none, .mv (.val (.bool false))⟩] [] [0, 1, 2, 3, 4])
  (.seq
  (.seq
  (.reg [⟨some 15, none, .mv (.tmp 1)⟩,
    ⟨some 16, none, .call 11 .pure [(.tmp 15), (.val (.list .nil 4 [])), (.val (.list .nil 1 []))]⟩] [] [0, 1, 2, 3, 4, 16])
  (.cond (.tmp 16)
  (.seq
  (.reg [⟨some 17, none, .call 7 .pure []⟩,
    ⟨some 10, none, .mv (.tmp 17)⟩] [] [10])
  (.ret))
  (.skip)))
  (.seq
  (.reg [⟨some 19, none, .mv (.tmp 0)⟩,
    ⟨some 20, none, .mv (.tmp 1)⟩,
    ⟨some 21, none, .mv (.tmp 2)⟩,
    ⟨some 22, none, .mv (.tmp 3)⟩,
    ⟨some 23, none, .mv (.tmp 4)⟩,
    ⟨some 24, none, .call 15 .pure [(.tmp 19), (.tmp 20), (.tmp 21), (.tmp 22), (.tmp 23)]⟩,
    ⟨some 18, none, .mv (.tmp 24)⟩,
    ⟨some 25, none, .ext 0 (.tmp 18)⟩,
    ⟨some 26, none, .ext 1 (.tmp 18)⟩,
    ⟨some 11, none, .mv (.tmp 25)⟩,
    ⟨some 12, none, .mv (.tmp 26)⟩] [] [0, 1, 2, 3, 4, 11, 12])
  (.seq
  (.reg [⟨some 28, none, .mv (.tmp 0)⟩,
    ⟨some 29, none, .mv (.tmp 1)⟩,
    ⟨some 30, none, .mv (.tmp 2)⟩,
    ⟨some 31, none, .mv (.tmp 3)⟩,
    ⟨some 32, none, .mv (.tmp 4)⟩,
    ⟨some 33, none, .call 16 .pure [(.tmp 28), (.tmp 29), (.tmp 30), (.tmp 31), (.tmp 32)]⟩,
    ⟨some 27, none, .mv (.tmp 33)⟩,
    ⟨some 34, none, .ext 0 (.tmp 27)⟩,
    ⟨some 35, none, .ext 1 (.tmp 27)⟩,
    ⟨some 13, none, .mv (.tmp 34)⟩,
    ⟨some 14, none, .mv (.tmp 35)⟩] [] [11, 12, 13, 14])
  (.seq
  (.reg [⟨some 36, none, .mv (.tmp 14)⟩,
    ⟨some 37, none, .mv (.tmp 12)⟩,
    ⟨some 38, none, .bin .eql (.tmp 36) (.tmp 37)⟩,
    ⟨some 39, none, .mv (.tmp 38)⟩,
    ⟨some 40, (some (39, true)), .mv (.tmp 13)⟩,
    ⟨some 41, (some (39, true)), .mv (.tmp 11)⟩,
    ⟨some 42, (some (39, true)), .call 14 .pure [(.tmp 40), (.tmp 41)]⟩,
    ⟨some 43, none, .pick (.tmp 39) (.tmp 42) (.val (.bool false))⟩,
    ⟨some 44, none, .mv (.tmp 43)⟩,
    ⟨some 45, (some (44, true)), .call 7 .pure []⟩,
    ⟨some 46, none, .pick (.tmp 44) (.tmp 45) (.val (.bool false))⟩,
    ⟨some 10, none, .mv (.tmp 46)⟩] [] [10])
  (.ret)))))⟩
theorem pf5_ok : fnOk Try.prog 5 pf5 = true := by kernel_rfl

/-- hinterland/hinterlandlaw13.FlowOrder -/
def pf6 : PFn := ⟨91, 4, [.tmp 8], .seq
  (.reg [⟨some 6, none, .boxp 36 (.tmp 2)⟩,
    ⟨some 7, none, .boxp 36 (.tmp 3)⟩,
    ⟨some 8, none, .mv (.val (.bool false))⟩] [] [0, 1, 6, 7])
  (.seq
  (.seq
  (.reg [⟨some 13, none, .mv (.tmp 1)⟩,
    ⟨some 14, none, .call 11 .pure [(.tmp 13), (.val (.list .nil 4 [])), (.val (.list .nil 1 []))]⟩] [] [0, 1, 6, 7, 14])
  (.cond (.tmp 14)
  (.seq
  (.reg [⟨some 15, none, .call 7 .pure []⟩,
    ⟨some 8, none, .mv (.tmp 15)⟩] [] [8])
  (.ret))
  (.skip)))
  (.seq
  (.reg [⟨some 17, none, .mv (.tmp 0)⟩,
    ⟨some 18, none, .mv (.tmp 1)⟩,
    ⟨some 19, none, .faddr 0 (.tmp 6)⟩,
    ⟨some 20, none, .ld none (.tmp 19)⟩,
    ⟨some 21, none, .faddr 1 (.tmp 6)⟩,
    ⟨some 22, none, .ld none (.tmp 21)⟩,
    ⟨some 23, none, .faddr 2 (.tmp 6)⟩,
    ⟨some 24, none, .ld none (.tmp 23)⟩,
    ⟨some 25, none, .call 16 .pure [(.tmp 17), (.tmp 18), (.tmp 20), (.tmp 22), (.tmp 24)]⟩,
    ⟨some 16, none, .mv (.tmp 25)⟩,
    ⟨some 26, none, .ext 0 (.tmp 16)⟩,
    ⟨some 27, none, .ext 1 (.tmp 16)⟩,
    ⟨some 9, none, .mv (.tmp 26)⟩,
    ⟨some 10, none, .mv (.tmp 27)⟩] [] [0, 1, 6, 7, 9, 10])
  (.seq
  (.reg [⟨some 29, none, .mv (.tmp 0)⟩,
    ⟨some 30, none, .mv (.tmp 1)⟩,
    ⟨some 31, none, .faddr 0 (.tmp 7)⟩,
    ⟨some 32, none, .ld none (.tmp 31)⟩,
    ⟨some 33, none, .faddr 1 (.tmp 7)⟩,
    ⟨some 34, none, .ld none (.tmp 33)⟩,
    ⟨some 35, none, .faddr 2 (.tmp 7)⟩,
    ⟨some 36, none, .ld none (.tmp 35)⟩,
    ⟨some 37, none, .call 16 .pure [(.tmp 29), (.tmp 30), (.tmp 32), (.tmp 34), (.tmp 36)]⟩,
    ⟨some 28, none, .mv (.tmp 37)⟩,
    ⟨some 38, none, .ext 0 (.tmp 28)⟩,
    ⟨some 39, none, .ext 1 (.tmp 28)⟩,
    ⟨some 11, none, .mv (.tmp 38)⟩,
    ⟨some 12, none, .mv (.tmp 39)⟩] [] [0, 6, 7, 9, 10, 11, 12])
  (.seq
  (.seq
  (.reg [⟨some 40, none, .mv (.tmp 10)⟩,
    ⟨some 41, none, .bin .neq (.tmp 40) (.val (.int .i64 0))⟩,
    ⟨some 42, none, .mv (.tmp 41)⟩,
    ⟨some 43, (some (42, false)), .mv (.tmp 12)⟩,
    ⟨some 44, (some (42, false)), .bin .neq (.tmp 43) (.val (.int .i64 0))⟩,
    ⟨some 45, none, .pick (.tmp 42) (.val (.bool true)) (.tmp 44)⟩] [] [0, 6, 7, 9, 11, 45])
  (.cond (.tmp 45)
  (.seq
  (.reg [⟨some 46, none, .call 7 .pure []⟩,
    ⟨some 8, none, .mv (.tmp 46)⟩] [] [8])
  (.ret))
  (.skip)))
  (.seq
  (.reg [⟨some 48, none, .mv (.tmp 0)⟩,
    ⟨some 49, none, .mv (.tmp 9)⟩,
    ⟨some 50, none, .faddr 0 (.tmp 7)⟩,
    ⟨some 51, none, .ld none (.tmp 50)⟩,
    ⟨some 52, none, .faddr 1 (.tmp 7)⟩,
    ⟨some 53, none, .ld none (.tmp 52)⟩,
    ⟨some 54, none, .faddr 2 (.tmp 7)⟩,
    ⟨some 55, none, .ld none (.tmp 54)⟩,
    ⟨some 56, none, .call 16 .pure [(.tmp 48), (.tmp 49), (.tmp 51), (.tmp 53), (.tmp 55)]⟩,
    ⟨some 47, none, .mv (.tmp 56)⟩,
    ⟨some 57, none, .ext 0 (.tmp 47)⟩,
    ⟨some 58, none, .ext 1 (.tmp 47)⟩,
    ⟨some 9, none, .mv (.tmp 57)⟩,
    ⟨some 10, none, .mv (.tmp 58)⟩] [] [0, 6, 9, 10, 11])
  (.seq
  (.reg [⟨some 60, none, .mv (.tmp 0)⟩,
    ⟨some 61, none, .mv (.tmp 11)⟩,
    ⟨some 62, none, .faddr 0 (.tmp 6)⟩,
    ⟨some 63, none, .ld none (.tmp 62)⟩,
    ⟨some 64, none, .faddr 1 (.tmp 6)⟩,
    ⟨some 65, none, .ld none (.tmp 64)⟩,
    ⟨some 66, none, .faddr 2 (.tmp 6)⟩,
    ⟨some 67, none, .ld none (.tmp 66)⟩,
    ⟨some 68, none, .call 16 .pure [(.tmp 60), (.tmp 61), (.tmp 63), (.tmp 65), (.tmp 67)]⟩,
    ⟨some 59, none, .mv (.tmp 68)⟩,
    ⟨some 69, none, .ext 0 (.tmp 59)⟩,
    ⟨some 70, none, .ext 1 (.tmp 59)⟩,
    ⟨some 11, none, .mv (.tmp 69)⟩,
    ⟨some 12, none, .mv (.tmp 70)⟩] [] [0, 9, 10, 11, 12])
  (.seq
  (.reg [⟨some 71, none, .mv (.tmp 10)⟩,
    ⟨some 72, none, .bin .eql (.tmp 71) (.val (.int .i64 0))⟩,
    ⟨some 73, none, .mv (.tmp 72)⟩,
    ⟨some 74, (some (73, true)), .mv (.tmp 12)⟩,
    ⟨some 75, (some (73, true)), .bin .eql (.tmp 74) (.val (.int .i64 0))⟩,
    ⟨some 76, none, .pick (.tmp 73) (.tmp 75) (.val (.bool false))⟩,
    ⟨some 77, none, .mv (.tmp 76)⟩,
    ⟨some 78, (some (77, true)), .mv (.tmp 9)⟩,
    ⟨some 79, (some (77, true)), .mv (.tmp 11)⟩,
    ⟨some 80, (some (77, true)), .call 14 .pure [(.tmp 78), (.tmp 79)]⟩,
    ⟨some 81, none, .pick (.tmp 77) (.tmp 80) (.val (.bool false))⟩,
    ⟨some 82, none, .mv (.tmp 81)⟩,
    ⟨some 83, (some (82, true)), .mv (.tmp 0)⟩,
    ⟨some 84, (some (82, true)), .mv (.tmp 9)⟩,
    ⟨some 85, (some (82, true)), .call 17 .pure [(.tmp 83), (.tmp 84)]⟩,
    ⟨some 86, (some (82, true)), .bin .eql (.tmp 85) (.val (.int .i64 0))⟩,
    ⟨some 87, none, .pick (.tmp 82) (.tmp 86) (.val (.bool false))⟩,
    ⟨some 88, none, .mv (.tmp 87)⟩,
    ⟨some 89, (some (88, true)), .call 7 .pure []⟩,
    ⟨some 90, none, .pick (.tmp 88) (.tmp 89) (.val (.bool false))⟩,
    ⟨some 8, none, .mv (.tmp 90)⟩] [] [8])
  (.ret))))))))⟩
theorem pf6_ok : fnOk Try.prog 6 pf6 = true := by kernel_rfl

/-- The functions. -/
def tb : Table := ⟨[(35, pf35), (19, pf19), (41, pf41), (40, pf40), (38, pf38), (37, pf37), (34, pf34), (28, pf28), (29, pf29), (20, pf20), (9, pf9), (18, pf18), (7, pf7), (10, pf10), (11, pf11), (23, pf23), (21, pf21), (12, pf12), (30, pf30), (31, pf31), (26, pf26), (17, pf17), (13, pf13), (14, pf14), (8, pf8), (22, pf22), (15, pf15), (24, pf24), (25, pf25), (27, pf27), (16, pf16), (4, pf4), (3, pf3), (5, pf5), (6, pf6)], fun _ _ => none, fun _ _ _ => none, fun _ _ => none, fun _ _ => none⟩
theorem tb_fns : ∀ x ∈ tb.fns, fnOk Try.prog x.1 x.2 = true :=
  List.forall_mem_cons.2 ⟨pf35_ok, List.forall_mem_cons.2 ⟨pf19_ok, List.forall_mem_cons.2 ⟨pf41_ok, List.forall_mem_cons.2 ⟨pf40_ok, List.forall_mem_cons.2 ⟨pf38_ok, List.forall_mem_cons.2 ⟨pf37_ok, List.forall_mem_cons.2 ⟨pf34_ok, List.forall_mem_cons.2 ⟨pf28_ok, List.forall_mem_cons.2 ⟨pf29_ok, List.forall_mem_cons.2 ⟨pf20_ok, List.forall_mem_cons.2 ⟨pf9_ok, List.forall_mem_cons.2 ⟨pf18_ok, List.forall_mem_cons.2 ⟨pf7_ok, List.forall_mem_cons.2 ⟨pf10_ok, List.forall_mem_cons.2 ⟨pf11_ok, List.forall_mem_cons.2 ⟨pf23_ok, List.forall_mem_cons.2 ⟨pf21_ok, List.forall_mem_cons.2 ⟨pf12_ok, List.forall_mem_cons.2 ⟨pf30_ok, List.forall_mem_cons.2 ⟨pf31_ok, List.forall_mem_cons.2 ⟨pf26_ok, List.forall_mem_cons.2 ⟨pf17_ok, List.forall_mem_cons.2 ⟨pf13_ok, List.forall_mem_cons.2 ⟨pf14_ok, List.forall_mem_cons.2 ⟨pf8_ok, List.forall_mem_cons.2 ⟨pf22_ok, List.forall_mem_cons.2 ⟨pf15_ok, List.forall_mem_cons.2 ⟨pf24_ok, List.forall_mem_cons.2 ⟨pf25_ok, List.forall_mem_cons.2 ⟨pf27_ok, List.forall_mem_cons.2 ⟨pf16_ok, List.forall_mem_cons.2 ⟨pf4_ok, List.forall_mem_cons.2 ⟨pf3_ok, List.forall_mem_cons.2 ⟨pf5_ok, List.forall_mem_cons.2 ⟨pf6_ok,  fun _ h => (List.not_mem_nil h).elim⟩⟩⟩⟩⟩⟩⟩⟩⟩⟩⟩⟩⟩⟩⟩⟩⟩⟩⟩⟩⟩⟩⟩⟩⟩⟩⟩⟩⟩⟩⟩⟩⟩⟩⟩
theorem tb_ok : TOk Try.prog tb := ⟨tb_fns, fun _ _ _ h => (by cases h), fun _ _ _ _ _ h => (by cases h), fun _ _ _ h => (by cases h), fun _ _ _ h => (by cases h), (by kernel_rfl)⟩
end Go.Proofs.Ytbkhmgcfgfcilaa
