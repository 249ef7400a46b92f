/- PCode of functions, written by wip/tools/gen.py out of the loaded functions' print. -/
import Derived.Test.YtmbknidfkddpfaaPmTwentyFive
import Derived.Test.YtmbknidfkddpfaaPmTwentySeven
import Derived.Test.YtmbknidfkddpfaaProg
import Derived.KernelRfl
set_option maxRecDepth 100000
namespace Go.Proofs.Ytmbknidfkddpfaa
open Go.Proofs.Ytmbknidfkddpfaa.PM

/-- (hinterland/air.stack).ends -/
def pf74 : PFn := ⟨7, 2, [.tmp 4], .seq
  (.reg [⟨some 2, none, .boxp 78 (.tmp 0)⟩,
    ⟨some 4, none, .mv (.val (.bool false))⟩] [] [1])
  (.seq
  (.reg [⟨some 5, none, .mv (.tmp 1)⟩,
    ⟨some 6, none, .bin .eql (.tmp 5) (.val (.int .i64 2))⟩,
    ⟨some 4, none, .mv (.tmp 6)⟩] [] [4])
  (.ret))⟩
theorem pf74_ok : fnOk Try.prog 74 pf74 = true := by kernel_rfl

/-- (hinterland/air.stack).many -/
def pf75 : PFn := ⟨3, 1, [.tmp 2], .seq
  (.reg [⟨some 1, none, .boxp 78 (.tmp 0)⟩,
    ⟨some 2, none, .mv (.val (.bool false))⟩] [] [])
  (.seq
  (.reg [⟨some 2, none, .mv (.val (.bool true))⟩] [] [2])
  (.ret))⟩
theorem pf75_ok : fnOk Try.prog 75 pf75 = true := by kernel_rfl

/-- (hinterland/air.ground).ends -/
def pf76 : PFn := ⟨12, 2, [.tmp 4], .seq
  (.reg [⟨some 2, none, .boxp 80 (.tmp 0)⟩,
    ⟨some 4, none, .mv (.val (.bool false))⟩] [] [1, 2])
  (.seq
  (.reg [⟨some 5, none, .mv (.tmp 1)⟩,
    ⟨some 6, none, .bin .eql (.tmp 5) (.val (.int .i64 1))⟩,
    ⟨some 7, none, .mv (.tmp 6)⟩,
    ⟨some 8, (some (7, true)), .faddr 0 (.tmp 2)⟩,
    ⟨some 9, (some (7, true)), .ld none (.tmp 8)⟩,
    ⟨some 10, (some (7, true)), .bin .eql (.tmp 9) (.val (.int .i64 3))⟩,
    ⟨some 11, none, .pick (.tmp 7) (.tmp 10) (.val (.bool false))⟩,
    ⟨some 4, none, .mv (.tmp 11)⟩] [] [4])
  (.ret))⟩
theorem pf76_ok : fnOk Try.prog 76 pf76 = true := by kernel_rfl

/-- (hinterland/air.ground).many -/
def pf77 : PFn := ⟨3, 1, [.tmp 2], .seq
  (.reg [⟨some 1, none, .boxp 80 (.tmp 0)⟩,
    ⟨some 2, none, .mv (.val (.bool false))⟩] [] [])
  (.seq
  (.reg [⟨some 2, none, .mv (.val (.bool false))⟩] [] [2])
  (.ret))⟩
theorem pf77_ok : fnOk Try.prog 77 pf77 = true := by kernel_rfl

/-- slices.swapRangeCmpFunc[int] -/
def pf58 : PFn := ⟨38, 5, [], .seq
  (.reg [⟨some 10, none, .mv (.val (.int .i64 0))⟩] [] [0, 1, 2, 3, 10])
  (.blk 0 (.loop (.seq
  (.seq
  (.reg [⟨some 11, none, .mv (.tmp 10)⟩,
    ⟨some 12, none, .mv (.tmp 3)⟩,
    ⟨some 13, none, .bin .lss (.tmp 11) (.tmp 12)⟩] [] [0, 1, 2, 3, 10, 13])
  (.cond (.tmp 13)
  (.skip)
  (.ext 0)))
  (.seq
  (.blk 1 (.reg [⟨some 16, none, .mv (.tmp 0)⟩,
    ⟨some 17, none, .mv (.tmp 1)⟩,
    ⟨some 18, none, .mv (.tmp 10)⟩,
    ⟨some 19, none, .bin .add (.tmp 17) (.tmp 18)⟩,
    ⟨some 20, none, .mv (.tmp 0)⟩,
    ⟨some 21, none, .mv (.tmp 2)⟩,
    ⟨some 22, none, .mv (.tmp 10)⟩,
    ⟨some 23, none, .bin .add (.tmp 21) (.tmp 22)⟩,
    ⟨some 24, none, .mv (.tmp 0)⟩,
    ⟨some 25, none, .mv (.tmp 2)⟩,
    ⟨some 26, none, .mv (.tmp 10)⟩,
    ⟨some 27, none, .bin .add (.tmp 25) (.tmp 26)⟩,
    ⟨some 28, none, .iaS 1 (.tmp 24) (.tmp 27)⟩,
    ⟨some 29, none, .ld none (.tmp 28)⟩,
    ⟨some 30, none, .mv (.tmp 0)⟩,
    ⟨some 31, none, .mv (.tmp 1)⟩,
    ⟨some 32, none, .mv (.tmp 10)⟩,
    ⟨some 33, none, .bin .add (.tmp 31) (.tmp 32)⟩,
    ⟨some 34, none, .iaS 1 (.tmp 30) (.tmp 33)⟩,
    ⟨some 35, none, .ld none (.tmp 34)⟩,
    ⟨some 36, none, .iaS 1 (.tmp 16) (.tmp 19)⟩,
    ⟨none, none, .st 1 (.tmp 36) (.tmp 29)⟩,
    ⟨some 37, none, .iaS 1 (.tmp 20) (.tmp 23)⟩,
    ⟨none, none, .st 1 (.tmp 37) (.tmp 35)⟩] [] [0, 1, 2, 3, 10]))
  (.reg [⟨some 14, none, .mv (.tmp 10)⟩,
    ⟨some 15, none, .bin .add (.tmp 14) (.val (.int .i64 1))⟩,
    ⟨some 10, none, .mv (.tmp 15)⟩] [] [0, 1, 2, 3, 10])))))⟩
theorem pf58_ok : fnOk Try.prog 58 pf58 = true := by kernel_rfl

/-- slices.rotateCmpFunc[int] -/
def pf57 : PFn := ⟨58, 5, [], .seq
  (.reg [⟨some 12, none, .mv (.tmp 2)⟩,
    ⟨some 13, none, .mv (.tmp 1)⟩,
    ⟨some 14, none, .bin .sub (.tmp 12) (.tmp 13)⟩,
    ⟨some 10, none, .mv (.tmp 14)⟩] [] [0, 2, 3, 4, 10])
  (.seq
  (.reg [⟨some 15, none, .mv (.tmp 3)⟩,
    ⟨some 16, none, .mv (.tmp 2)⟩,
    ⟨some 17, none, .bin .sub (.tmp 15) (.tmp 16)⟩,
    ⟨some 11, none, .mv (.tmp 17)⟩] [] [0, 2, 4, 10, 11])
  (.seq
  (.blk 0 (.loop (.seq
  (.seq
  (.reg [⟨some 18, none, .mv (.tmp 10)⟩,
    ⟨some 19, none, .mv (.tmp 11)⟩,
    ⟨some 20, none, .bin .neq (.tmp 18) (.tmp 19)⟩] [] [0, 2, 4, 10, 11, 20])
  (.cond (.tmp 20)
  (.skip)
  (.ext 0)))
  (.blk 1 (.seq
  (.reg [⟨some 21, none, .mv (.tmp 10)⟩,
    ⟨some 22, none, .mv (.tmp 11)⟩,
    ⟨some 23, none, .bin .gtr (.tmp 21) (.tmp 22)⟩] [] [0, 2, 4, 10, 11, 23])
  (.cond (.tmp 23)
  (.seq
  (.reg [⟨some 24, none, .mv (.tmp 0)⟩,
    ⟨some 25, none, .mv (.tmp 2)⟩,
    ⟨some 26, none, .mv (.tmp 10)⟩,
    ⟨some 27, none, .bin .sub (.tmp 25) (.tmp 26)⟩,
    ⟨some 28, none, .mv (.tmp 2)⟩,
    ⟨some 29, none, .mv (.tmp 11)⟩,
    ⟨some 30, none, .mv (.tmp 4)⟩,
    ⟨some 31, none, .call 58 .opn [(.tmp 24), (.tmp 27), (.tmp 28), (.tmp 29), (.tmp 30)]⟩] [] [0, 2, 4, 10, 11])
  (.reg [⟨some 32, none, .mv (.tmp 10)⟩,
    ⟨some 33, none, .mv (.tmp 11)⟩,
    ⟨some 34, none, .bin .sub (.tmp 32) (.tmp 33)⟩,
    ⟨some 10, none, .mv (.tmp 34)⟩] [] [0, 2, 4, 10, 11]))
  (.seq
  (.reg [⟨some 35, none, .mv (.tmp 0)⟩,
    ⟨some 36, none, .mv (.tmp 2)⟩,
    ⟨some 37, none, .mv (.tmp 10)⟩,
    ⟨some 38, none, .bin .sub (.tmp 36) (.tmp 37)⟩,
    ⟨some 39, none, .mv (.tmp 2)⟩,
    ⟨some 40, none, .mv (.tmp 11)⟩,
    ⟨some 41, none, .bin .add (.tmp 39) (.tmp 40)⟩,
    ⟨some 42, none, .mv (.tmp 10)⟩,
    ⟨some 43, none, .bin .sub (.tmp 41) (.tmp 42)⟩,
    ⟨some 44, none, .mv (.tmp 10)⟩,
    ⟨some 45, none, .mv (.tmp 4)⟩,
    ⟨some 46, none, .call 58 .opn [(.tmp 35), (.tmp 38), (.tmp 43), (.tmp 44), (.tmp 45)]⟩] [] [0, 2, 4, 10, 11])
  (.reg [⟨some 47, none, .mv (.tmp 11)⟩,
    ⟨some 48, none, .mv (.tmp 10)⟩,
    ⟨some 49, none, .bin .sub (.tmp 47) (.tmp 48)⟩,
    ⟨some 11, none, .mv (.tmp 49)⟩] [] [0, 2, 4, 10, 11]))))))))
  (.reg [⟨some 50, none, .mv (.tmp 0)⟩,
    ⟨some 51, none, .mv (.tmp 2)⟩,
    ⟨some 52, none, .mv (.tmp 10)⟩,
    ⟨some 53, none, .bin .sub (.tmp 51) (.tmp 52)⟩,
    ⟨some 54, none, .mv (.tmp 2)⟩,
    ⟨some 55, none, .mv (.tmp 10)⟩,
    ⟨some 56, none, .mv (.tmp 4)⟩,
    ⟨some 57, none, .call 58 .opn [(.tmp 50), (.tmp 53), (.tmp 54), (.tmp 55), (.tmp 56)]⟩] [] [])))⟩
theorem pf57_ok : fnOk Try.prog 57 pf57 = true := by kernel_rfl

/-- slices.symMergeCmpFunc[int] -/
def pf56 : PFn := ⟨220, 5, [], .seq
  (.seq
  (.reg [⟨some 25, none, .mv (.tmp 2)⟩,
    ⟨some 26, none, .mv (.tmp 1)⟩,
    ⟨some 27, none, .bin .sub (.tmp 25) (.tmp 26)⟩,
    ⟨some 28, none, .bin .eql (.tmp 27) (.val (.int .i64 1))⟩] [] [0, 1, 2, 3, 4, 28])
  (.cond (.tmp 28)
  (.seq
  (.reg [⟨some 29, none, .mv (.tmp 2)⟩,
    ⟨some 10, none, .mv (.tmp 29)⟩] [] [0, 1, 3, 4, 10])
  (.seq
  (.reg [⟨some 30, none, .mv (.tmp 3)⟩,
    ⟨some 11, none, .mv (.tmp 30)⟩] [] [0, 1, 4, 10, 11])
  (.seq
  (.blk 0 (.loop (.seq
  (.seq
  (.reg [⟨some 31, none, .mv (.tmp 10)⟩,
    ⟨some 32, none, .mv (.tmp 11)⟩,
    ⟨some 33, none, .bin .lss (.tmp 31) (.tmp 32)⟩] [] [0, 1, 4, 10, 11, 33])
  (.cond (.tmp 33)
  (.skip)
  (.ext 0)))
  (.blk 1 (.seq
  (.reg [⟨some 34, none, .mv (.tmp 10)⟩,
    ⟨some 35, none, .mv (.tmp 11)⟩,
    ⟨some 36, none, .bin .add (.tmp 34) (.tmp 35)⟩,
    ⟨some 37, none, .conv .u64 (.tmp 36)⟩,
    ⟨some 38, none, .bin .shr (.tmp 37) (.val (.int .u64 1))⟩,
    ⟨some 39, none, .conv .i64 (.tmp 38)⟩,
    ⟨some 12, none, .mv (.tmp 39)⟩] [] [0, 1, 4, 10, 11, 12])
  (.seq
  (.reg [⟨some 40, none, .mv (.tmp 4)⟩,
    ⟨some 41, none, .mv (.tmp 0)⟩,
    ⟨some 42, none, .mv (.tmp 12)⟩,
    ⟨some 43, none, .iaS 1 (.tmp 41) (.tmp 42)⟩,
    ⟨some 44, none, .ld none (.tmp 43)⟩,
    ⟨some 45, none, .mv (.tmp 0)⟩,
    ⟨some 46, none, .mv (.tmp 1)⟩,
    ⟨some 47, none, .iaS 1 (.tmp 45) (.tmp 46)⟩,
    ⟨some 48, none, .ld none (.tmp 47)⟩,
    ⟨some 49, none, .callv (.tmp 40) .pure [(.tmp 44), (.tmp 48)]⟩,
    ⟨some 50, none, .bin .lss (.tmp 49) (.val (.int .i64 0))⟩] [] [0, 1, 4, 10, 11, 12, 50])
  (.cond (.tmp 50)
  (.reg [⟨some 51, none, .mv (.tmp 12)⟩,
    ⟨some 52, none, .bin .add (.tmp 51) (.val (.int .i64 1))⟩,
    ⟨some 10, none, .mv (.tmp 52)⟩] [] [0, 1, 4, 10, 11])
  (.reg [⟨some 53, none, .mv (.tmp 12)⟩,
    ⟨some 11, none, .mv (.tmp 53)⟩] [] [0, 1, 4, 10, 11]))))))))
  (.seq
  (.seq
  (.reg [⟨some 54, none, .mv (.tmp 1)⟩,
    ⟨some 13, none, .mv (.tmp 54)⟩] [] [0, 10, 13])
  (.blk 2 (.loop (.seq
  (.seq
  (.reg [⟨some 55, none, .mv (.tmp 13)⟩,
    ⟨some 56, none, .mv (.tmp 10)⟩,
    ⟨some 57, none, .bin .sub (.tmp 56) (.val (.int .i64 1))⟩,
    ⟨some 58, none, .bin .lss (.tmp 55) (.tmp 57)⟩] [] [0, 10, 13, 58])
  (.cond (.tmp 58)
  (.skip)
  (.ext 2)))
  (.seq
  (.blk 3 (.reg [⟨some 61, none, .mv (.tmp 0)⟩,
    ⟨some 62, none, .mv (.tmp 13)⟩,
    ⟨some 63, none, .mv (.tmp 0)⟩,
    ⟨some 64, none, .mv (.tmp 13)⟩,
    ⟨some 65, none, .bin .add (.tmp 64) (.val (.int .i64 1))⟩,
    ⟨some 66, none, .mv (.tmp 0)⟩,
    ⟨some 67, none, .mv (.tmp 13)⟩,
    ⟨some 68, none, .bin .add (.tmp 67) (.val (.int .i64 1))⟩,
    ⟨some 69, none, .iaS 1 (.tmp 66) (.tmp 68)⟩,
    ⟨some 70, none, .ld none (.tmp 69)⟩,
    ⟨some 71, none, .mv (.tmp 0)⟩,
    ⟨some 72, none, .mv (.tmp 13)⟩,
    ⟨some 73, none, .iaS 1 (.tmp 71) (.tmp 72)⟩,
    ⟨some 74, none, .ld none (.tmp 73)⟩,
    ⟨some 75, none, .iaS 1 (.tmp 61) (.tmp 62)⟩,
    ⟨none, none, .st 1 (.tmp 75) (.tmp 70)⟩,
    ⟨some 76, none, .iaS 1 (.tmp 63) (.tmp 65)⟩,
    ⟨none, none, .st 1 (.tmp 76) (.tmp 74)⟩] [] [0, 10, 13]))
  (.reg [⟨some 59, none, .mv (.tmp 13)⟩,
    ⟨some 60, none, .bin .add (.tmp 59) (.val (.int .i64 1))⟩,
    ⟨some 13, none, .mv (.tmp 60)⟩] [] [0, 10, 13]))))))
  (.ret)))))
  (.skip)))
  (.seq
  (.seq
  (.reg [⟨some 77, none, .mv (.tmp 3)⟩,
    ⟨some 78, none, .mv (.tmp 2)⟩,
    ⟨some 79, none, .bin .sub (.tmp 77) (.tmp 78)⟩,
    ⟨some 80, none, .bin .eql (.tmp 79) (.val (.int .i64 1))⟩] [] [0, 1, 2, 3, 4, 80])
  (.cond (.tmp 80)
  (.seq
  (.reg [⟨some 81, none, .mv (.tmp 1)⟩,
    ⟨some 14, none, .mv (.tmp 81)⟩] [] [0, 2, 4, 14])
  (.seq
  (.reg [⟨some 82, none, .mv (.tmp 2)⟩,
    ⟨some 15, none, .mv (.tmp 82)⟩] [] [0, 2, 4, 14, 15])
  (.seq
  (.blk 4 (.loop (.seq
  (.seq
  (.reg [⟨some 83, none, .mv (.tmp 14)⟩,
    ⟨some 84, none, .mv (.tmp 15)⟩,
    ⟨some 85, none, .bin .lss (.tmp 83) (.tmp 84)⟩] [] [0, 2, 4, 14, 15, 85])
  (.cond (.tmp 85)
  (.skip)
  (.ext 4)))
  (.blk 5 (.seq
  (.reg [⟨some 86, none, .mv (.tmp 14)⟩,
    ⟨some 87, none, .mv (.tmp 15)⟩,
    ⟨some 88, none, .bin .add (.tmp 86) (.tmp 87)⟩,
    ⟨some 89, none, .conv .u64 (.tmp 88)⟩,
    ⟨some 90, none, .bin .shr (.tmp 89) (.val (.int .u64 1))⟩,
    ⟨some 91, none, .conv .i64 (.tmp 90)⟩,
    ⟨some 16, none, .mv (.tmp 91)⟩] [] [0, 2, 4, 14, 15, 16])
  (.seq
  (.reg [⟨some 92, none, .mv (.tmp 4)⟩,
    ⟨some 93, none, .mv (.tmp 0)⟩,
    ⟨some 94, none, .mv (.tmp 2)⟩,
    ⟨some 95, none, .iaS 1 (.tmp 93) (.tmp 94)⟩,
    ⟨some 96, none, .ld none (.tmp 95)⟩,
    ⟨some 97, none, .mv (.tmp 0)⟩,
    ⟨some 98, none, .mv (.tmp 16)⟩,
    ⟨some 99, none, .iaS 1 (.tmp 97) (.tmp 98)⟩,
    ⟨some 100, none, .ld none (.tmp 99)⟩,
    ⟨some 101, none, .callv (.tmp 92) .pure [(.tmp 96), (.tmp 100)]⟩,
    ⟨some 102, none, .bin .lss (.tmp 101) (.val (.int .i64 0))⟩,
    ⟨some 103, none, .un .not (.tmp 102)⟩] [] [0, 2, 4, 14, 15, 16, 103])
  (.cond (.tmp 103)
  (.reg [⟨some 104, none, .mv (.tmp 16)⟩,
    ⟨some 105, none, .bin .add (.tmp 104) (.val (.int .i64 1))⟩,
    ⟨some 14, none, .mv (.tmp 105)⟩] [] [0, 2, 4, 14, 15])
  (.reg [⟨some 106, none, .mv (.tmp 16)⟩,
    ⟨some 15, none, .mv (.tmp 106)⟩] [] [0, 2, 4, 14, 15]))))))))
  (.seq
  (.seq
  (.reg [⟨some 107, none, .mv (.tmp 2)⟩,
    ⟨some 17, none, .mv (.tmp 107)⟩] [] [0, 14, 17])
  (.blk 6 (.loop (.seq
  (.seq
  (.reg [⟨some 108, none, .mv (.tmp 17)⟩,
    ⟨some 109, none, .mv (.tmp 14)⟩,
    ⟨some 110, none, .bin .gtr (.tmp 108) (.tmp 109)⟩] [] [0, 14, 17, 110])
  (.cond (.tmp 110)
  (.skip)
  (.ext 6)))
  (.seq
  (.blk 7 (.reg [⟨some 113, none, .mv (.tmp 0)⟩,
    ⟨some 114, none, .mv (.tmp 17)⟩,
    ⟨some 115, none, .mv (.tmp 0)⟩,
    ⟨some 116, none, .mv (.tmp 17)⟩,
    ⟨some 117, none, .bin .sub (.tmp 116) (.val (.int .i64 1))⟩,
    ⟨some 118, none, .mv (.tmp 0)⟩,
    ⟨some 119, none, .mv (.tmp 17)⟩,
    ⟨some 120, none, .bin .sub (.tmp 119) (.val (.int .i64 1))⟩,
    ⟨some 121, none, .iaS 1 (.tmp 118) (.tmp 120)⟩,
    ⟨some 122, none, .ld none (.tmp 121)⟩,
    ⟨some 123, none, .mv (.tmp 0)⟩,
    ⟨some 124, none, .mv (.tmp 17)⟩,
    ⟨some 125, none, .iaS 1 (.tmp 123) (.tmp 124)⟩,
    ⟨some 126, none, .ld none (.tmp 125)⟩,
    ⟨some 127, none, .iaS 1 (.tmp 113) (.tmp 114)⟩,
    ⟨none, none, .st 1 (.tmp 127) (.tmp 122)⟩,
    ⟨some 128, none, .iaS 1 (.tmp 115) (.tmp 117)⟩,
    ⟨none, none, .st 1 (.tmp 128) (.tmp 126)⟩] [] [0, 14, 17]))
  (.reg [⟨some 111, none, .mv (.tmp 17)⟩,
    ⟨some 112, none, .bin .sub (.tmp 111) (.val (.int .i64 1))⟩,
    ⟨some 17, none, .mv (.tmp 112)⟩] [] [0, 14, 17]))))))
  (.ret)))))
  (.skip)))
  (.seq
  (.reg [⟨some 129, none, .mv (.tmp 1)⟩,
    ⟨some 130, none, .mv (.tmp 3)⟩,
    ⟨some 131, none, .bin .add (.tmp 129) (.tmp 130)⟩,
    ⟨some 132, none, .conv .u64 (.tmp 131)⟩,
    ⟨some 133, none, .bin .shr (.tmp 132) (.val (.int .u64 1))⟩,
    ⟨some 134, none, .conv .i64 (.tmp 133)⟩,
    ⟨some 18, none, .mv (.tmp 134)⟩] [] [0, 1, 2, 3, 4, 18])
  (.seq
  (.reg [⟨some 135, none, .mv (.tmp 18)⟩,
    ⟨some 136, none, .mv (.tmp 2)⟩,
    ⟨some 137, none, .bin .add (.tmp 135) (.tmp 136)⟩,
    ⟨some 19, none, .mv (.tmp 137)⟩] [] [0, 1, 2, 3, 4, 18, 19])
  (.seq
  (.reg [⟨some 20, none, .mv (.val (.int .i64 0))⟩,
    ⟨some 21, none, .mv (.val (.int .i64 0))⟩] [] [0, 1, 2, 3, 4, 18, 19])
  (.seq
  (.seq
  (.reg [⟨some 138, none, .mv (.tmp 2)⟩,
    ⟨some 139, none, .mv (.tmp 18)⟩,
    ⟨some 140, none, .bin .gtr (.tmp 138) (.tmp 139)⟩] [] [0, 1, 2, 3, 4, 18, 19, 140])
  (.cond (.tmp 140)
  (.seq
  (.reg [⟨some 141, none, .mv (.tmp 19)⟩,
    ⟨some 142, none, .mv (.tmp 3)⟩,
    ⟨some 143, none, .bin .sub (.tmp 141) (.tmp 142)⟩,
    ⟨some 20, none, .mv (.tmp 143)⟩] [] [0, 1, 2, 3, 4, 18, 19, 20])
  (.reg [⟨some 144, none, .mv (.tmp 18)⟩,
    ⟨some 21, none, .mv (.tmp 144)⟩] [] [0, 1, 2, 3, 4, 18, 19, 20, 21]))
  (.seq
  (.reg [⟨some 145, none, .mv (.tmp 1)⟩,
    ⟨some 20, none, .mv (.tmp 145)⟩] [] [0, 1, 2, 3, 4, 18, 19, 20])
  (.reg [⟨some 146, none, .mv (.tmp 2)⟩,
    ⟨some 21, none, .mv (.tmp 146)⟩] [] [0, 1, 2, 3, 4, 18, 19, 20, 21]))))
  (.seq
  (.reg [⟨some 147, none, .mv (.tmp 19)⟩,
    ⟨some 148, none, .bin .sub (.tmp 147) (.val (.int .i64 1))⟩,
    ⟨some 22, none, .mv (.tmp 148)⟩] [] [0, 1, 2, 3, 4, 18, 19, 20, 21, 22])
  (.seq
  (.blk 8 (.loop (.seq
  (.seq
  (.reg [⟨some 149, none, .mv (.tmp 20)⟩,
    ⟨some 150, none, .mv (.tmp 21)⟩,
    ⟨some 151, none, .bin .lss (.tmp 149) (.tmp 150)⟩] [] [0, 1, 2, 3, 4, 18, 19, 20, 21, 22, 151])
  (.cond (.tmp 151)
  (.skip)
  (.ext 8)))
  (.blk 9 (.seq
  (.reg [⟨some 152, none, .mv (.tmp 20)⟩,
    ⟨some 153, none, .mv (.tmp 21)⟩,
    ⟨some 154, none, .bin .add (.tmp 152) (.tmp 153)⟩,
    ⟨some 155, none, .conv .u64 (.tmp 154)⟩,
    ⟨some 156, none, .bin .shr (.tmp 155) (.val (.int .u64 1))⟩,
    ⟨some 157, none, .conv .i64 (.tmp 156)⟩,
    ⟨some 23, none, .mv (.tmp 157)⟩] [] [0, 1, 2, 3, 4, 18, 19, 20, 21, 22, 23])
  (.seq
  (.reg [⟨some 158, none, .mv (.tmp 4)⟩,
    ⟨some 159, none, .mv (.tmp 0)⟩,
    ⟨some 160, none, .mv (.tmp 22)⟩,
    ⟨some 161, none, .mv (.tmp 23)⟩,
    ⟨some 162, none, .bin .sub (.tmp 160) (.tmp 161)⟩,
    ⟨some 163, none, .iaS 1 (.tmp 159) (.tmp 162)⟩,
    ⟨some 164, none, .ld none (.tmp 163)⟩,
    ⟨some 165, none, .mv (.tmp 0)⟩,
    ⟨some 166, none, .mv (.tmp 23)⟩,
    ⟨some 167, none, .iaS 1 (.tmp 165) (.tmp 166)⟩,
    ⟨some 168, none, .ld none (.tmp 167)⟩,
    ⟨some 169, none, .callv (.tmp 158) .pure [(.tmp 164), (.tmp 168)]⟩,
    ⟨some 170, none, .bin .lss (.tmp 169) (.val (.int .i64 0))⟩,
    ⟨some 171, none, .un .not (.tmp 170)⟩] [] [0, 1, 2, 3, 4, 18, 19, 20, 21, 22, 23, 171])
  (.cond (.tmp 171)
  (.reg [⟨some 172, none, .mv (.tmp 23)⟩,
    ⟨some 173, none, .bin .add (.tmp 172) (.val (.int .i64 1))⟩,
    ⟨some 20, none, .mv (.tmp 173)⟩] [] [0, 1, 2, 3, 4, 18, 19, 20, 21, 22])
  (.reg [⟨some 174, none, .mv (.tmp 23)⟩,
    ⟨some 21, none, .mv (.tmp 174)⟩] [] [0, 1, 2, 3, 4, 18, 19, 20, 21, 22]))))))))
  (.seq
  (.reg [⟨some 175, none, .mv (.tmp 19)⟩,
    ⟨some 176, none, .mv (.tmp 20)⟩,
    ⟨some 177, none, .bin .sub (.tmp 175) (.tmp 176)⟩,
    ⟨some 24, none, .mv (.tmp 177)⟩] [] [0, 1, 2, 3, 4, 18, 20, 24])
  (.seq
  (.seq
  (.reg [⟨some 178, none, .mv (.tmp 20)⟩,
    ⟨some 179, none, .mv (.tmp 2)⟩,
    ⟨some 180, none, .bin .lss (.tmp 178) (.tmp 179)⟩,
    ⟨some 181, none, .mv (.tmp 180)⟩,
    ⟨some 182, (some (181, true)), .mv (.tmp 2)⟩,
    ⟨some 183, (some (181, true)), .mv (.tmp 24)⟩,
    ⟨some 184, (some (181, true)), .bin .lss (.tmp 182) (.tmp 183)⟩,
    ⟨some 185, none, .pick (.tmp 181) (.tmp 184) (.val (.bool false))⟩] [] [0, 1, 2, 3, 4, 18, 20, 24, 185])
  (.cond (.tmp 185)
  (.reg [⟨some 186, none, .mv (.tmp 0)⟩,
    ⟨some 187, none, .mv (.tmp 20)⟩,
    ⟨some 188, none, .mv (.tmp 2)⟩,
    ⟨some 189, none, .mv (.tmp 24)⟩,
    ⟨some 190, none, .mv (.tmp 4)⟩,
    ⟨some 191, none, .call 57 .opn [(.tmp 186), (.tmp 187), (.tmp 188), (.tmp 189), (.tmp 190)]⟩] [] [0, 1, 3, 4, 18, 20, 24])
  (.skip)))
  (.seq
  (.seq
  (.reg [⟨some 192, none, .mv (.tmp 1)⟩,
    ⟨some 193, none, .mv (.tmp 20)⟩,
    ⟨some 194, none, .bin .lss (.tmp 192) (.tmp 193)⟩,
    ⟨some 195, none, .mv (.tmp 194)⟩,
    ⟨some 196, (some (195, true)), .mv (.tmp 20)⟩,
    ⟨some 197, (some (195, true)), .mv (.tmp 18)⟩,
    ⟨some 198, (some (195, true)), .bin .lss (.tmp 196) (.tmp 197)⟩,
    ⟨some 199, none, .pick (.tmp 195) (.tmp 198) (.val (.bool false))⟩] [] [0, 1, 3, 4, 18, 20, 24, 199])
  (.cond (.tmp 199)
  (.reg [⟨some 200, none, .mv (.tmp 0)⟩,
    ⟨some 201, none, .mv (.tmp 1)⟩,
    ⟨some 202, none, .mv (.tmp 20)⟩,
    ⟨some 203, none, .mv (.tmp 18)⟩,
    ⟨some 204, none, .mv (.tmp 4)⟩,
    ⟨some 205, none, .call 56 .opn [(.tmp 200), (.tmp 201), (.tmp 202), (.tmp 203), (.tmp 204)]⟩] [] [0, 3, 4, 18, 24])
  (.skip)))
  (.seq
  (.reg [⟨some 206, none, .mv (.tmp 18)⟩,
    ⟨some 207, none, .mv (.tmp 24)⟩,
    ⟨some 208, none, .bin .lss (.tmp 206) (.tmp 207)⟩,
    ⟨some 209, none, .mv (.tmp 208)⟩,
    ⟨some 210, (some (209, true)), .mv (.tmp 24)⟩,
    ⟨some 211, (some (209, true)), .mv (.tmp 3)⟩,
    ⟨some 212, (some (209, true)), .bin .lss (.tmp 210) (.tmp 211)⟩,
    ⟨some 213, none, .pick (.tmp 209) (.tmp 212) (.val (.bool false))⟩] [] [0, 3, 4, 18, 24, 213])
  (.cond (.tmp 213)
  (.reg [⟨some 214, none, .mv (.tmp 0)⟩,
    ⟨some 215, none, .mv (.tmp 18)⟩,
    ⟨some 216, none, .mv (.tmp 24)⟩,
    ⟨some 217, none, .mv (.tmp 3)⟩,
    ⟨some 218, none, .mv (.tmp 4)⟩,
    ⟨some 219, none, .call 56 .opn [(.tmp 214), (.tmp 215), (.tmp 216), (.tmp 217), (.tmp 218)]⟩] [] [])
  (.skip)))))))))))))⟩
theorem pf56_ok : fnOk Try.prog 56 pf56 = true := by kernel_rfl

/-- slices.insertionSortCmpFunc[int] -/
def pf55 : PFn := ⟨53, 4, [], .seq
  (.reg [⟨some 10, none, .mv (.tmp 1)⟩,
    ⟨some 11, none, .bin .add (.tmp 10) (.val (.int .i64 1))⟩,
    ⟨some 8, none, .mv (.tmp 11)⟩] [] [0, 1, 2, 3, 8])
  (.blk 0 (.loop (.seq
  (.seq
  (.reg [⟨some 12, none, .mv (.tmp 8)⟩,
    ⟨some 13, none, .mv (.tmp 2)⟩,
    ⟨some 14, none, .bin .lss (.tmp 12) (.tmp 13)⟩] [] [0, 1, 2, 3, 8, 14])
  (.cond (.tmp 14)
  (.skip)
  (.ext 0)))
  (.seq
  (.blk 1 (.seq
  (.reg [⟨some 17, none, .mv (.tmp 8)⟩,
    ⟨some 9, none, .mv (.tmp 17)⟩] [] [0, 1, 2, 3, 8, 9])
  (.blk 2 (.loop (.seq
  (.seq
  (.reg [⟨some 18, none, .mv (.tmp 9)⟩,
    ⟨some 19, none, .mv (.tmp 1)⟩,
    ⟨some 20, none, .bin .gtr (.tmp 18) (.tmp 19)⟩,
    ⟨some 21, none, .mv (.tmp 20)⟩,
    ⟨some 22, (some (21, true)), .mv (.tmp 3)⟩,
    ⟨some 23, (some (21, true)), .mv (.tmp 0)⟩,
    ⟨some 24, (some (21, true)), .mv (.tmp 9)⟩,
    ⟨some 25, (some (21, true)), .iaS 1 (.tmp 23) (.tmp 24)⟩,
    ⟨some 26, (some (21, true)), .ld none (.tmp 25)⟩,
    ⟨some 27, (some (21, true)), .mv (.tmp 0)⟩,
    ⟨some 28, (some (21, true)), .mv (.tmp 9)⟩,
    ⟨some 29, (some (21, true)), .bin .sub (.tmp 28) (.val (.int .i64 1))⟩,
    ⟨some 30, (some (21, true)), .iaS 1 (.tmp 27) (.tmp 29)⟩,
    ⟨some 31, (some (21, true)), .ld none (.tmp 30)⟩,
    ⟨some 32, (some (21, true)), .callv (.tmp 22) .pure [(.tmp 26), (.tmp 31)]⟩,
    ⟨some 33, (some (21, true)), .bin .lss (.tmp 32) (.val (.int .i64 0))⟩,
    ⟨some 34, none, .pick (.tmp 21) (.tmp 33) (.val (.bool false))⟩] [] [0, 1, 2, 3, 8, 9, 34])
  (.cond (.tmp 34)
  (.skip)
  (.ext 2)))
  (.seq
  (.blk 3 (.reg [⟨some 37, none, .mv (.tmp 0)⟩,
    ⟨some 38, none, .mv (.tmp 9)⟩,
    ⟨some 39, none, .mv (.tmp 0)⟩,
    ⟨some 40, none, .mv (.tmp 9)⟩,
    ⟨some 41, none, .bin .sub (.tmp 40) (.val (.int .i64 1))⟩,
    ⟨some 42, none, .mv (.tmp 0)⟩,
    ⟨some 43, none, .mv (.tmp 9)⟩,
    ⟨some 44, none, .bin .sub (.tmp 43) (.val (.int .i64 1))⟩,
    ⟨some 45, none, .iaS 1 (.tmp 42) (.tmp 44)⟩,
    ⟨some 46, none, .ld none (.tmp 45)⟩,
    ⟨some 47, none, .mv (.tmp 0)⟩,
    ⟨some 48, none, .mv (.tmp 9)⟩,
    ⟨some 49, none, .iaS 1 (.tmp 47) (.tmp 48)⟩,
    ⟨some 50, none, .ld none (.tmp 49)⟩,
    ⟨some 51, none, .iaS 1 (.tmp 37) (.tmp 38)⟩,
    ⟨none, none, .st 1 (.tmp 51) (.tmp 46)⟩,
    ⟨some 52, none, .iaS 1 (.tmp 39) (.tmp 41)⟩,
    ⟨none, none, .st 1 (.tmp 52) (.tmp 50)⟩] [] [0, 1, 2, 3, 8, 9]))
  (.reg [⟨some 35, none, .mv (.tmp 9)⟩,
    ⟨some 36, none, .bin .sub (.tmp 35) (.val (.int .i64 1))⟩,
    ⟨some 9, none, .mv (.tmp 36)⟩] [] [0, 1, 2, 3, 8, 9])))))))
  (.reg [⟨some 15, none, .mv (.tmp 8)⟩,
    ⟨some 16, none, .bin .add (.tmp 15) (.val (.int .i64 1))⟩,
    ⟨some 8, none, .mv (.tmp 16)⟩] [] [0, 1, 2, 3, 8])))))⟩
theorem pf55_ok : fnOk Try.prog 55 pf55 = true := by kernel_rfl

/-- hinterland/air.way_1 -/
def pf54 : PFn := ⟨21, 4, [.tmp 5], .seq
  (.reg [⟨some 5, none, .mv (.val (.bool false))⟩] [] [0, 1, 2, 3])
  (.seq
  (.reg [⟨some 6, none, .mv (.tmp 0)⟩,
    ⟨some 7, none, .ld none (.tmp 1)⟩,
    ⟨some 8, none, .bin .eql (.tmp 6) (.tmp 7)⟩,
    ⟨some 9, none, .mv (.tmp 8)⟩,
    ⟨some 10, (some (9, false)), .ld none (.tmp 2)⟩,
    ⟨some 11, (some (9, false)), .mv (.tmp 0)⟩,
    ⟨some 12, (some (9, false)), .callv (.tmp 10) .pure [(.tmp 11)]⟩,
    ⟨some 13, (some (9, false)), .mv (.tmp 12)⟩,
    ⟨some 14, (some (13, true)), .ld (some 2) (.tmp 3)⟩,
    ⟨some 15, (some (13, true)), .mv (.tmp 0)⟩,
    ⟨some 16, (some (13, true)), .call 36 .pure [(.tmp 14), (.tmp 15)]⟩,
    ⟨some 17, (some (13, true)), .inv (.tmp 16) "hinterland/air.many" .pure []⟩,
    ⟨some 18, (some (13, true)), .un .not (.tmp 17)⟩,
    ⟨some 19, (some (9, false)), .pick (.tmp 13) (.tmp 18) (.val (.bool false))⟩,
    ⟨some 20, none, .pick (.tmp 9) (.val (.bool true)) (.tmp 19)⟩,
    ⟨some 5, none, .mv (.tmp 20)⟩] [] [5])
  (.ret))⟩
theorem pf54_ok : fnOk Try.prog 54 pf54 = true := by kernel_rfl

/-- slices.IndexFunc[[]hinterland/api.Plane,hinterland/api.Plane] -/
def pf53 : PFn := ⟨19, 2, [.tmp 4], .seq
  (.reg [⟨some 4, none, .mv (.val (.int .i64 0))⟩] [] [0, 1])
  (.seq
  (.seq
  (.reg [⟨some 6, none, .mv (.tmp 0)⟩,
    ⟨some 7, none, .len (.tmp 6)⟩,
    ⟨some 8, none, .mv (.val (.int .i64 0))⟩] [] [0, 1, 7, 8])
  (.blk 0 (.loop (.seq
  (.reg [⟨some 9, none, .bin .lss (.tmp 8) (.tmp 7)⟩] [] [0, 1, 7, 8, 9])
  (.seq
  (.cond (.tmp 9)
  (.skip)
  (.ext 0))
  (.seq
  (.blk 1 (.seq
  (.reg [⟨some 10, none, .mv (.tmp 8)⟩,
    ⟨some 5, none, .mv (.tmp 10)⟩] [] [0, 1, 5, 7, 8])
  (.seq
  (.reg [⟨some 11, none, .mv (.tmp 1)⟩,
    ⟨some 12, none, .mv (.tmp 0)⟩,
    ⟨some 13, none, .mv (.tmp 5)⟩,
    ⟨some 14, none, .iaS 5 (.tmp 12) (.tmp 13)⟩,
    ⟨some 15, none, .ld (some 5) (.tmp 14)⟩,
    ⟨some 16, none, .callv (.tmp 11) .pure [(.tmp 15)]⟩] [] [0, 1, 5, 7, 8, 16])
  (.cond (.tmp 16)
  (.seq
  (.reg [⟨some 17, none, .mv (.tmp 5)⟩,
    ⟨some 4, none, .mv (.tmp 17)⟩] [] [4])
  (.ret))
  (.skip)))))
  (.reg [⟨some 18, none, .bin .add (.tmp 8) (.val (.int .i64 1))⟩,
    ⟨some 8, none, .mv (.tmp 18)⟩] [] [0, 1, 7, 8])))))))
  (.seq
  (.reg [⟨some 4, none, .mv (.val (.int .i64 (-1)))⟩] [] [4])
  (.ret)))⟩
theorem pf53_ok : fnOk Try.prog 53 pf53 = true := by kernel_rfl

/-- slices.stableCmpFunc[int] -/
def pf52 : PFn := ⟨63, 3, [], .seq
  (.reg [⟨some 6, none, .mv (.val (.int .i64 20))⟩] [] [0, 1, 2, 6])
  (.seq
  (.reg [⟨some 10, none, .mv (.tmp 6)⟩,
    ⟨some 7, none, .mv (.val (.int .i64 0))⟩,
    ⟨some 8, none, .mv (.tmp 10)⟩] [] [0, 1, 2, 6, 7, 8])
  (.seq
  (.blk 0 (.loop (.seq
  (.seq
  (.reg [⟨some 11, none, .mv (.tmp 8)⟩,
    ⟨some 12, none, .mv (.tmp 1)⟩,
    ⟨some 13, none, .bin .leq (.tmp 11) (.tmp 12)⟩] [] [0, 1, 2, 6, 7, 8, 13])
  (.cond (.tmp 13)
  (.skip)
  (.ext 0)))
  (.blk 1 (.seq
  (.reg [⟨some 14, none, .mv (.tmp 0)⟩,
    ⟨some 15, none, .mv (.tmp 7)⟩,
    ⟨some 16, none, .mv (.tmp 8)⟩,
    ⟨some 17, none, .mv (.tmp 2)⟩,
    ⟨some 18, none, .call 55 .opn [(.tmp 14), (.tmp 15), (.tmp 16), (.tmp 17)]⟩] [] [0, 1, 2, 6, 8])
  (.seq
  (.reg [⟨some 19, none, .mv (.tmp 8)⟩,
    ⟨some 7, none, .mv (.tmp 19)⟩] [] [0, 1, 2, 6, 7, 8])
  (.reg [⟨some 20, none, .mv (.tmp 8)⟩,
    ⟨some 21, none, .mv (.tmp 6)⟩,
    ⟨some 22, none, .bin .add (.tmp 20) (.tmp 21)⟩,
    ⟨some 8, none, .mv (.tmp 22)⟩] [] [0, 1, 2, 6, 7, 8])))))))
  (.seq
  (.reg [⟨some 23, none, .mv (.tmp 0)⟩,
    ⟨some 24, none, .mv (.tmp 7)⟩,
    ⟨some 25, none, .mv (.tmp 1)⟩,
    ⟨some 26, none, .mv (.tmp 2)⟩,
    ⟨some 27, none, .call 55 .opn [(.tmp 23), (.tmp 24), (.tmp 25), (.tmp 26)]⟩] [] [0, 1, 2, 6])
  (.blk 2 (.loop (.seq
  (.seq
  (.reg [⟨some 28, none, .mv (.tmp 6)⟩,
    ⟨some 29, none, .mv (.tmp 1)⟩,
    ⟨some 30, none, .bin .lss (.tmp 28) (.tmp 29)⟩] [] [0, 1, 2, 6, 30])
  (.cond (.tmp 30)
  (.skip)
  (.ext 2)))
  (.blk 3 (.seq
  (.reg [⟨some 31, none, .mv (.tmp 6)⟩,
    ⟨some 32, none, .bin .mul (.val (.int .i64 2)) (.tmp 31)⟩,
    ⟨some 7, none, .mv (.val (.int .i64 0))⟩,
    ⟨some 8, none, .mv (.tmp 32)⟩] [] [0, 1, 2, 6, 7, 8])
  (.seq
  (.blk 4 (.loop (.seq
  (.seq
  (.reg [⟨some 33, none, .mv (.tmp 8)⟩,
    ⟨some 34, none, .mv (.tmp 1)⟩,
    ⟨some 35, none, .bin .leq (.tmp 33) (.tmp 34)⟩] [] [0, 1, 2, 6, 7, 8, 35])
  (.cond (.tmp 35)
  (.skip)
  (.ext 4)))
  (.blk 5 (.seq
  (.reg [⟨some 36, none, .mv (.tmp 0)⟩,
    ⟨some 37, none, .mv (.tmp 7)⟩,
    ⟨some 38, none, .mv (.tmp 7)⟩,
    ⟨some 39, none, .mv (.tmp 6)⟩,
    ⟨some 40, none, .bin .add (.tmp 38) (.tmp 39)⟩,
    ⟨some 41, none, .mv (.tmp 8)⟩,
    ⟨some 42, none, .mv (.tmp 2)⟩,
    ⟨some 43, none, .call 56 .opn [(.tmp 36), (.tmp 37), (.tmp 40), (.tmp 41), (.tmp 42)]⟩] [] [0, 1, 2, 6, 8])
  (.seq
  (.reg [⟨some 44, none, .mv (.tmp 8)⟩,
    ⟨some 7, none, .mv (.tmp 44)⟩] [] [0, 1, 2, 6, 7, 8])
  (.reg [⟨some 45, none, .mv (.tmp 8)⟩,
    ⟨some 46, none, .mv (.tmp 6)⟩,
    ⟨some 47, none, .bin .mul (.val (.int .i64 2)) (.tmp 46)⟩,
    ⟨some 48, none, .bin .add (.tmp 45) (.tmp 47)⟩,
    ⟨some 8, none, .mv (.tmp 48)⟩] [] [0, 1, 2, 6, 7, 8])))))))
  (.seq
  (.seq
  (.reg [⟨some 49, none, .mv (.tmp 7)⟩,
    ⟨some 50, none, .mv (.tmp 6)⟩,
    ⟨some 51, none, .bin .add (.tmp 49) (.tmp 50)⟩,
    ⟨some 9, none, .mv (.tmp 51)⟩] [] [0, 1, 2, 6, 7, 9])
  (.seq
  (.reg [⟨some 52, none, .mv (.tmp 9)⟩,
    ⟨some 53, none, .mv (.tmp 1)⟩,
    ⟨some 54, none, .bin .lss (.tmp 52) (.tmp 53)⟩] [] [0, 1, 2, 6, 7, 9, 54])
  (.cond (.tmp 54)
  (.reg [⟨some 55, none, .mv (.tmp 0)⟩,
    ⟨some 56, none, .mv (.tmp 7)⟩,
    ⟨some 57, none, .mv (.tmp 9)⟩,
    ⟨some 58, none, .mv (.tmp 1)⟩,
    ⟨some 59, none, .mv (.tmp 2)⟩,
    ⟨some 60, none, .call 56 .opn [(.tmp 55), (.tmp 56), (.tmp 57), (.tmp 58), (.tmp 59)]⟩] [] [0, 1, 2, 6])
  (.skip))))
  (.reg [⟨some 61, none, .mv (.tmp 6)⟩,
    ⟨some 62, none, .bin .mul (.tmp 61) (.val (.int .i64 2))⟩,
    ⟨some 6, none, .mv (.tmp 62)⟩] [] [0, 1, 2, 6])))))))))))⟩
theorem pf52_ok : fnOk Try.prog 52 pf52 = true := by kernel_rfl

/-- hinterland/air.Open_1 -/
def pf51 : PFn := ⟨3, 1, [.tmp 2], .seq
  (.reg [⟨some 2, none, .mv (.val (.bool false))⟩] [] [])
  (.seq
  (.reg [⟨some 2, none, .mv (.val (.bool true))⟩] [] [2])
  (.ret))⟩
theorem pf51_ok : fnOk Try.prog 51 pf51 = true := by kernel_rfl

/-- hinterland/air.Way_1 -/
def pf50 : PFn := ⟨3, 1, [.tmp 2], .seq
  (.reg [⟨some 2, none, .mv (.val (.bool false))⟩] [] [])
  (.seq
  (.reg [⟨some 2, none, .mv (.val (.bool true))⟩] [] [2])
  (.ret))⟩
theorem pf50_ok : fnOk Try.prog 50 pf50 = true := by kernel_rfl

/-- hinterland/hinterlandref18.asked -/
def pf49 : PFn := ⟨20, 2, [.tmp 4], .seq
  (.reg [⟨some 2, none, .boxp 31 (.tmp 0)⟩,
    ⟨some 4, none, .mv (.val (.int .i64 0))⟩] [] [1, 2])
  (.seq
  (.seq
  (.reg [⟨some 6, none, .ld (some 4) (.tmp 2)⟩,
    ⟨some 7, none, .call 18 .pure [(.tmp 6)]⟩,
    ⟨some 5, none, .mv (.tmp 7)⟩] [] [1, 2, 5])
  (.seq
  (.reg [⟨some 8, none, .mv (.tmp 5)⟩,
    ⟨some 9, none, .bin .neq (.tmp 8) (.val (.int .i64 0))⟩] [] [1, 2, 5, 9])
  (.cond (.tmp 9)
  (.seq
  (.reg [⟨some 10, none, .mv (.tmp 5)⟩,
    ⟨some 4, none, .mv (.tmp 10)⟩] [] [4])
  (.ret))
  (.skip))))
  (.seq
  (.seq
  (.reg [⟨some 11, none, .mv (.tmp 1)⟩,
    ⟨some 12, none, .bin .lss (.tmp 11) (.val (.int .i64 0))⟩,
    ⟨some 13, none, .mv (.tmp 12)⟩,
    ⟨some 14, (some (13, false)), .mv (.tmp 1)⟩,
    ⟨some 15, (some (13, false)), .faddr 2 (.tmp 2)⟩,
    ⟨some 16, (some (13, false)), .ld none (.tmp 15)⟩,
    ⟨some 17, (some (13, false)), .len (.tmp 16)⟩,
    ⟨some 18, (some (13, false)), .bin .geq (.tmp 14) (.tmp 17)⟩,
    ⟨some 19, none, .pick (.tmp 13) (.val (.bool true)) (.tmp 18)⟩] [] [19])
  (.cond (.tmp 19)
  (.seq
  (.reg [⟨some 4, none, .mv (.val (.int .i64 2))⟩] [] [4])
  (.ret))
  (.skip)))
  (.seq
  (.reg [⟨some 4, none, .mv (.val (.int .i64 0))⟩] [] [4])
  (.ret))))⟩
theorem pf49_ok : fnOk Try.prog 49 pf49 = true := by kernel_rfl

/-- hinterland/hinterlandsame.List[hinterland/api.Plane] -/
def pf48 : PFn := ⟨26, 2, [.tmp 4], .seq
  (.reg [⟨some 4, none, .mv (.val (.bool false))⟩] [] [0, 1])
  (.seq
  (.seq
  (.reg [⟨some 6, none, .mv (.tmp 0)⟩,
    ⟨some 7, none, .len (.tmp 6)⟩,
    ⟨some 8, none, .mv (.tmp 1)⟩,
    ⟨some 9, none, .len (.tmp 8)⟩,
    ⟨some 10, none, .bin .neq (.tmp 7) (.tmp 9)⟩] [] [0, 1, 10])
  (.cond (.tmp 10)
  (.seq
  (.reg [⟨some 4, none, .mv (.val (.bool false))⟩] [] [4])
  (.ret))
  (.skip)))
  (.seq
  (.seq
  (.reg [⟨some 5, none, .mv (.val (.int .i64 0))⟩] [] [0, 1, 5])
  (.blk 0 (.loop (.seq
  (.seq
  (.reg [⟨some 11, none, .mv (.tmp 5)⟩,
    ⟨some 12, none, .mv (.tmp 0)⟩,
    ⟨some 13, none, .len (.tmp 12)⟩,
    ⟨some 14, none, .bin .lss (.tmp 11) (.tmp 13)⟩] [] [0, 1, 5, 14])
  (.cond (.tmp 14)
  (.skip)
  (.ext 0)))
  (.seq
  (.blk 1 (.seq
  (.reg [⟨some 17, none, .mv (.tmp 0)⟩,
    ⟨some 18, none, .mv (.tmp 5)⟩,
    ⟨some 19, none, .iaS 5 (.tmp 17) (.tmp 18)⟩,
    ⟨some 20, none, .ld (some 5) (.tmp 19)⟩,
    ⟨some 21, none, .mv (.tmp 1)⟩,
    ⟨some 22, none, .mv (.tmp 5)⟩,
    ⟨some 23, none, .iaS 5 (.tmp 21) (.tmp 22)⟩,
    ⟨some 24, none, .ld (some 5) (.tmp 23)⟩,
    ⟨some 25, none, .eqs true [true, true, true, true, true] (.tmp 20) (.tmp 24)⟩] [] [0, 1, 5, 25])
  (.cond (.tmp 25)
  (.seq
  (.reg [⟨some 4, none, .mv (.val (.bool false))⟩] [] [4])
  (.ret))
  (.skip))))
  (.reg [⟨some 15, none, .mv (.tmp 5)⟩,
    ⟨some 16, none, .bin .add (.tmp 15) (.val (.int .i64 1))⟩,
    ⟨some 5, none, .mv (.tmp 16)⟩] [] [0, 1, 5]))))))
  (.seq
  (.reg [⟨some 4, none, .mv (.val (.bool true))⟩] [] [4])
  (.ret))))⟩
theorem pf48_ok : fnOk Try.prog 48 pf48 = true := by kernel_rfl

/-- hinterland/hinterlandref18.path -/
def pf47 : PFn := ⟨154, 4, [.tmp 8, .tmp 9], .seq
  (.reg [⟨some 4, none, .boxp 24 (.tmp 0)⟩,
    ⟨some 8, none, .mv (.val (.list .nil 1 []))⟩,
    ⟨some 9, none, .mv (.val (.bool false))⟩] [] [1, 2, 3, 4])
  (.seq
  (.reg [⟨some 21, none, .faddr 0 (.tmp 4)⟩,
    ⟨some 22, none, .ld none (.tmp 21)⟩,
    ⟨some 23, none, .len (.tmp 22)⟩,
    ⟨some 24, none, .mks 3 1 8 [(.int .i64 0)] (.tmp 23) (.tmp 23)⟩,
    ⟨some 10, none, .mv (.tmp 24)⟩] [] [1, 2, 3, 4, 10])
  (.seq
  (.seq
  (.reg [⟨some 25, none, .mv (.tmp 10)⟩,
    ⟨some 26, none, .len (.tmp 25)⟩,
    ⟨some 27, none, .mv (.val (.int .i64 0))⟩] [] [1, 2, 3, 4, 10, 26, 27])
  (.blk 0 (.loop (.seq
  (.reg [⟨some 28, none, .bin .lss (.tmp 27) (.tmp 26)⟩] [] [1, 2, 3, 4, 10, 26, 27, 28])
  (.seq
  (.cond (.tmp 28)
  (.skip)
  (.ext 0))
  (.seq
  (.blk 1 (.seq
  (.reg [⟨some 29, none, .mv (.tmp 27)⟩,
    ⟨some 11, none, .mv (.tmp 29)⟩] [] [1, 2, 3, 4, 10, 11, 26, 27])
  (.seq
  (.reg [⟨some 30, none, .mv (.tmp 10)⟩,
    ⟨some 31, none, .mv (.tmp 11)⟩,
    ⟨some 32, none, .iaS 1 (.tmp 30) (.tmp 31)⟩,
    ⟨none, none, .st 1 (.tmp 32) (.val (.int .i64 (-1)))⟩] [] [1, 2, 3, 4, 10, 11, 26, 27])
  (.seq
  (.reg [⟨some 33, none, .ld (some 2) (.tmp 4)⟩,
    ⟨some 34, none, .mv (.tmp 11)⟩,
    ⟨some 35, none, .mv (.tmp 2)⟩,
    ⟨some 36, none, .call 46 .pure [(.tmp 33), (.tmp 34), (.tmp 35)]⟩,
    ⟨some 37, none, .mv (.tmp 36)⟩,
    ⟨some 38, (some (37, true)), .mv (.tmp 11)⟩,
    ⟨some 39, (some (37, true)), .mv (.tmp 1)⟩,
    ⟨some 40, (some (37, true)), .bin .eql (.tmp 38) (.tmp 39)⟩,
    ⟨some 41, (some (37, true)), .mv (.tmp 40)⟩,
    ⟨some 42, (some (41, false)), .mv (.tmp 3)⟩,
    ⟨some 43, (some (41, false)), .mv (.tmp 11)⟩,
    ⟨some 44, (some (41, false)), .iaS 1 (.tmp 42) (.tmp 43)⟩,
    ⟨some 45, (some (41, false)), .ld none (.tmp 44)⟩,
    ⟨some 46, (some (41, false)), .un .not (.tmp 45)⟩,
    ⟨some 47, (some (37, true)), .pick (.tmp 41) (.val (.bool true)) (.tmp 46)⟩,
    ⟨some 48, none, .pick (.tmp 37) (.tmp 47) (.val (.bool false))⟩] [] [1, 2, 3, 4, 10, 11, 26, 27, 48])
  (.cond (.tmp 48)
  (.reg [⟨some 49, none, .mv (.tmp 10)⟩,
    ⟨some 50, none, .mv (.tmp 11)⟩,
    ⟨some 51, none, .iaS 1 (.tmp 49) (.tmp 50)⟩,
    ⟨none, none, .st 1 (.tmp 51) (.val (.int .i64 0))⟩] [] [1, 2, 3, 4, 10, 26, 27])
  (.skip))))))
  (.reg [⟨some 52, none, .bin .add (.tmp 27) (.val (.int .i64 1))⟩,
    ⟨some 27, none, .mv (.tmp 52)⟩] [] [1, 2, 3, 4, 10, 26, 27])))))))
  (.seq
  (.seq
  (.reg [⟨some 53, none, .mv (.tmp 2)⟩,
    ⟨some 54, none, .bin .eql (.tmp 53) (.val (.int .i64 0))⟩] [] [1, 3, 4, 10, 54])
  (.cond (.tmp 54)
  (.seq
  (.reg [⟨some 55, none, .mv (.tmp 1)⟩,
    ⟨some 56, none, .bsl 1 1 [(.int .i64 0)] [(0, 1, (.tmp 55))]⟩,
    ⟨some 8, none, .mv (.tmp 56)⟩,
    ⟨some 9, none, .mv (.val (.bool true))⟩] [] [8, 9])
  (.ret))
  (.skip)))
  (.seq
  (.seq
  (.reg [⟨some 57, none, .faddr 0 (.tmp 4)⟩,
    ⟨some 58, none, .ld none (.tmp 57)⟩,
    ⟨some 59, none, .len (.tmp 58)⟩,
    ⟨some 60, none, .mv (.val (.int .i64 0))⟩] [] [1, 3, 4, 10, 59, 60])
  (.blk 2 (.loop (.trim (.seq
  (.reg [⟨some 61, none, .bin .lss (.tmp 60) (.tmp 59)⟩] [] [1, 3, 4, 10, 59, 60, 61])
  (.seq
  (.cond (.tmp 61)
  (.skip)
  (.ext 2))
  (.seq
  (.blk 3 (.seq
  (.reg [⟨some 62, none, .mv (.tmp 60)⟩,
    ⟨some 12, none, .mv (.tmp 62)⟩] [] [1, 3, 4, 10, 12, 59, 60])
  (.seq
  (.reg [⟨some 63, none, .faddr 0 (.tmp 4)⟩,
    ⟨some 64, none, .ld none (.tmp 63)⟩,
    ⟨some 65, none, .len (.tmp 64)⟩,
    ⟨some 66, none, .mv (.val (.int .i64 0))⟩] [] [1, 3, 4, 10, 12, 59, 60, 64, 65, 66])
  (.blk 4 (.loop (.trim (.seq
  (.reg [⟨some 67, none, .bin .lss (.tmp 66) (.tmp 65)⟩] [] [1, 3, 4, 10, 12, 59, 60, 64, 65, 66, 67])
  (.seq
  (.cond (.tmp 67)
  (.skip)
  (.ext 4))
  (.seq
  (.blk 5 (.seq
  (.reg [⟨some 68, none, .mv (.tmp 66)⟩,
    ⟨some 69, none, .iaS 2 (.tmp 64) (.tmp 66)⟩,
    ⟨some 70, none, .ld (some 2) (.tmp 69)⟩,
    ⟨some 14, none, .zer 58 (.agg [(.int .i64 0), (.list .nil 1 [])])⟩,
    ⟨some 13, none, .mv (.tmp 68)⟩,
    ⟨none, none, .st 2 (.tmp 14) (.tmp 70)⟩] [] [1, 3, 4, 10, 12, 13, 14, 59, 60, 64, 65, 66])
  (.seq
  (.seq
  (.reg [⟨some 71, none, .mv (.tmp 10)⟩,
    ⟨some 72, none, .mv (.tmp 13)⟩,
    ⟨some 73, none, .iaS 1 (.tmp 71) (.tmp 72)⟩,
    ⟨some 74, none, .ld none (.tmp 73)⟩,
    ⟨some 75, none, .bin .geq (.tmp 74) (.val (.int .i64 0))⟩,
    ⟨some 76, none, .mv (.tmp 75)⟩,
    ⟨some 77, (some (76, false)), .mv (.tmp 13)⟩,
    ⟨some 78, (some (76, false)), .mv (.tmp 1)⟩,
    ⟨some 79, (some (76, false)), .bin .neq (.tmp 77) (.tmp 78)⟩,
    ⟨some 80, (some (76, false)), .mv (.tmp 79)⟩,
    ⟨some 81, (some (80, true)), .mv (.tmp 3)⟩,
    ⟨some 82, (some (80, true)), .mv (.tmp 13)⟩,
    ⟨some 83, (some (80, true)), .iaS 1 (.tmp 81) (.tmp 82)⟩,
    ⟨some 84, (some (80, true)), .ld none (.tmp 83)⟩,
    ⟨some 85, (some (80, true)), .mv (.tmp 84)⟩,
    ⟨some 86, (some (85, false)), .faddr 0 (.tmp 14)⟩,
    ⟨some 87, (some (85, false)), .ld none (.tmp 86)⟩,
    ⟨some 88, (some (85, false)), .bin .eql (.tmp 87) (.val (.int .i64 0))⟩,
    ⟨some 89, (some (80, true)), .pick (.tmp 85) (.val (.bool true)) (.tmp 88)⟩,
    ⟨some 90, (some (76, false)), .pick (.tmp 80) (.tmp 89) (.val (.bool false))⟩,
    ⟨some 91, none, .pick (.tmp 76) (.val (.bool true)) (.tmp 90)⟩] [] [1, 3, 4, 10, 12, 13, 14, 59, 60, 64, 65, 66, 91])
  (.cond (.tmp 91)
  (.ext 5)
  (.skip)))
  (.seq
  (.reg [⟨some 92, none, .faddr 1 (.tmp 14)⟩,
    ⟨some 93, none, .ld none (.tmp 92)⟩,
    ⟨some 94, none, .len (.tmp 93)⟩,
    ⟨some 95, none, .mv (.val (.int .i64 0))⟩] [] [1, 3, 4, 10, 12, 13, 59, 60, 64, 65, 66, 93, 94, 95])
  (.blk 6 (.loop (.seq
  (.reg [⟨some 96, none, .bin .lss (.tmp 95) (.tmp 94)⟩] [] [1, 3, 4, 10, 12, 13, 59, 60, 64, 65, 66, 93, 94, 95, 96])
  (.seq
  (.cond (.tmp 96)
  (.skip)
  (.ext 6))
  (.seq
  (.blk 7 (.seq
  (.reg [⟨some 97, none, .iaS 1 (.tmp 93) (.tmp 95)⟩,
    ⟨some 98, none, .ld none (.tmp 97)⟩,
    ⟨some 16, none, .mv (.tmp 98)⟩] [] [1, 3, 4, 10, 12, 13, 16, 59, 60, 64, 65, 66, 93, 94, 95])
  (.seq
  (.reg [⟨some 99, none, .mv (.tmp 10)⟩,
    ⟨some 100, none, .mv (.tmp 16)⟩,
    ⟨some 101, none, .iaS 1 (.tmp 99) (.tmp 100)⟩,
    ⟨some 102, none, .ld none (.tmp 101)⟩,
    ⟨some 103, none, .mv (.tmp 12)⟩,
    ⟨some 104, none, .bin .eql (.tmp 102) (.tmp 103)⟩] [] [1, 3, 4, 10, 12, 13, 59, 60, 64, 65, 66, 93, 94, 95, 104])
  (.cond (.tmp 104)
  (.reg [⟨some 105, none, .mv (.tmp 10)⟩,
    ⟨some 106, none, .mv (.tmp 13)⟩,
    ⟨some 107, none, .mv (.tmp 12)⟩,
    ⟨some 108, none, .bin .add (.tmp 107) (.val (.int .i64 1))⟩,
    ⟨some 109, none, .iaS 1 (.tmp 105) (.tmp 106)⟩,
    ⟨none, none, .st 1 (.tmp 109) (.tmp 108)⟩] [] [1, 3, 4, 10, 12, 13, 59, 60, 64, 65, 66, 93, 94, 95])
  (.skip)))))
  (.reg [⟨some 110, none, .bin .add (.tmp 95) (.val (.int .i64 1))⟩,
    ⟨some 95, none, .mv (.tmp 110)⟩] [] [1, 3, 4, 10, 12, 13, 59, 60, 64, 65, 66, 93, 94, 95]))))))))))
  (.reg [⟨some 111, none, .bin .add (.tmp 66) (.val (.int .i64 1))⟩,
    ⟨some 66, none, .mv (.tmp 111)⟩] [] [1, 3, 4, 10, 12, 59, 60, 64, 65, 66]))))))))))
  (.reg [⟨some 112, none, .bin .add (.tmp 60) (.val (.int .i64 1))⟩,
    ⟨some 60, none, .mv (.tmp 112)⟩] [] [1, 3, 4, 10, 59, 60]))))))))
  (.seq
  (.seq
  (.reg [⟨some 113, none, .mv (.tmp 10)⟩,
    ⟨some 114, none, .mv (.tmp 1)⟩,
    ⟨some 115, none, .iaS 1 (.tmp 113) (.tmp 114)⟩,
    ⟨some 116, none, .ld none (.tmp 115)⟩,
    ⟨some 117, none, .bin .lss (.tmp 116) (.val (.int .i64 0))⟩] [] [1, 4, 10, 117])
  (.cond (.tmp 117)
  (.seq
  (.reg [⟨some 8, none, .mv (.val (.list .nil 1 []))⟩,
    ⟨some 9, none, .mv (.val (.bool false))⟩] [] [8, 9])
  (.ret))
  (.skip)))
  (.seq
  (.reg [⟨some 118, none, .mv (.tmp 1)⟩,
    ⟨some 119, none, .bslm 3 1 1 [(.int .i64 0)] [(0, 1, (.tmp 118))]⟩,
    ⟨some 17, none, .mv (.tmp 119)⟩] [] [1, 4, 10, 17])
  (.seq
  (.seq
  (.reg [⟨some 120, none, .mv (.tmp 1)⟩,
    ⟨some 18, none, .mv (.tmp 120)⟩] [] [4, 10, 17, 18])
  (.blk 8 (.loop (.seq
  (.seq
  (.reg [⟨some 121, none, .mv (.tmp 10)⟩,
    ⟨some 122, none, .mv (.tmp 18)⟩,
    ⟨some 123, none, .iaS 1 (.tmp 121) (.tmp 122)⟩,
    ⟨some 124, none, .ld none (.tmp 123)⟩,
    ⟨some 125, none, .bin .gtr (.tmp 124) (.val (.int .i64 0))⟩] [] [4, 10, 17, 18, 125])
  (.cond (.tmp 125)
  (.skip)
  (.ext 8)))
  (.blk 9 (.seq
  (.reg [⟨some 126, none, .faddr 0 (.tmp 4)⟩,
    ⟨some 127, none, .ld none (.tmp 126)⟩,
    ⟨some 128, none, .mv (.tmp 18)⟩,
    ⟨some 129, none, .iaS 2 (.tmp 127) (.tmp 128)⟩,
    ⟨some 130, none, .faddr 1 (.tmp 129)⟩,
    ⟨some 131, none, .ld none (.tmp 130)⟩,
    ⟨some 132, none, .len (.tmp 131)⟩,
    ⟨some 133, none, .mv (.val (.int .i64 0))⟩] [] [4, 10, 17, 18, 131, 132, 133])
  (.blk 10 (.loop (.seq
  (.reg [⟨some 134, none, .bin .lss (.tmp 133) (.tmp 132)⟩] [] [4, 10, 17, 18, 131, 132, 133, 134])
  (.seq
  (.cond (.tmp 134)
  (.skip)
  (.ext 10))
  (.seq
  (.blk 11 (.seq
  (.reg [⟨some 135, none, .iaS 1 (.tmp 131) (.tmp 133)⟩,
    ⟨some 136, none, .ld none (.tmp 135)⟩,
    ⟨some 20, none, .mv (.tmp 136)⟩] [] [4, 10, 17, 18, 20, 131, 132, 133])
  (.seq
  (.reg [⟨some 137, none, .mv (.tmp 10)⟩,
    ⟨some 138, none, .mv (.tmp 20)⟩,
    ⟨some 139, none, .iaS 1 (.tmp 137) (.tmp 138)⟩,
    ⟨some 140, none, .ld none (.tmp 139)⟩,
    ⟨some 141, none, .mv (.tmp 10)⟩,
    ⟨some 142, none, .mv (.tmp 18)⟩,
    ⟨some 143, none, .iaS 1 (.tmp 141) (.tmp 142)⟩,
    ⟨some 144, none, .ld none (.tmp 143)⟩,
    ⟨some 145, none, .bin .sub (.tmp 144) (.val (.int .i64 1))⟩,
    ⟨some 146, none, .bin .eql (.tmp 140) (.tmp 145)⟩] [] [4, 10, 17, 18, 20, 131, 132, 133, 146])
  (.cond (.tmp 146)
  (.seq
  (.reg [⟨some 147, none, .mv (.tmp 20)⟩,
    ⟨some 18, none, .mv (.tmp 147)⟩] [] [4, 10, 17, 18])
  (.seq
  (.reg [⟨some 148, none, .mv (.tmp 17)⟩,
    ⟨some 149, none, .mv (.tmp 18)⟩,
    ⟨some 150, none, .bsl 1 1 [(.int .i64 0)] [(0, 1, (.tmp 149))]⟩,
    ⟨some 151, none, .app 3 1 8 (.tmp 148) (.tmp 150)⟩,
    ⟨some 17, none, .mv (.tmp 151)⟩] [] [4, 10, 17, 18])
  (.ext 10)))
  (.skip)))))
  (.reg [⟨some 152, none, .bin .add (.tmp 133) (.val (.int .i64 1))⟩,
    ⟨some 133, none, .mv (.tmp 152)⟩] [] [4, 10, 17, 18, 131, 132, 133]))))))))))))
  (.seq
  (.reg [⟨some 153, none, .mv (.tmp 17)⟩,
    ⟨some 8, none, .mv (.tmp 153)⟩,
    ⟨some 9, none, .mv (.val (.bool true))⟩] [] [8, 9])
  (.ret)))))))))⟩
theorem pf47_ok : fnOk Try.prog 47 pf47 = true := by kernel_rfl

/-- hinterland/hinterlandref18.ended -/
def pf46 : PFn := ⟨35, 3, [.tmp 6], .seq
  (.reg [⟨some 3, none, .boxp 24 (.tmp 0)⟩,
    ⟨some 6, none, .mv (.val (.bool false))⟩] [] [1, 2, 3])
  (.seq
  (.reg [⟨some 7, none, .mv (.tmp 2)⟩,
    ⟨some 8, none, .bin .eql (.tmp 7) (.val (.int .i64 0))⟩,
    ⟨some 9, none, .mv (.tmp 8)⟩,
    ⟨some 10, (some (9, false)), .mv (.tmp 2)⟩,
    ⟨some 11, (some (9, false)), .bin .eql (.tmp 10) (.val (.int .i64 1))⟩,
    ⟨some 12, (some (9, false)), .mv (.tmp 11)⟩,
    ⟨some 13, (some (12, true)), .faddr 0 (.tmp 3)⟩,
    ⟨some 14, (some (12, true)), .ld none (.tmp 13)⟩,
    ⟨some 15, (some (12, true)), .mv (.tmp 1)⟩,
    ⟨some 16, (some (12, true)), .iaS 2 (.tmp 14) (.tmp 15)⟩,
    ⟨some 17, (some (12, true)), .faddr 0 (.tmp 16)⟩,
    ⟨some 18, (some (12, true)), .ld none (.tmp 17)⟩,
    ⟨some 19, (some (12, true)), .bin .eql (.tmp 18) (.val (.int .i64 3))⟩,
    ⟨some 20, (some (9, false)), .pick (.tmp 12) (.tmp 19) (.val (.bool false))⟩,
    ⟨some 21, none, .pick (.tmp 9) (.val (.bool true)) (.tmp 20)⟩,
    ⟨some 22, none, .mv (.tmp 21)⟩,
    ⟨some 23, (some (22, false)), .mv (.tmp 2)⟩,
    ⟨some 24, (some (22, false)), .bin .eql (.tmp 23) (.val (.int .i64 2))⟩,
    ⟨some 25, (some (22, false)), .mv (.tmp 24)⟩,
    ⟨some 26, (some (25, true)), .faddr 0 (.tmp 3)⟩,
    ⟨some 27, (some (25, true)), .ld none (.tmp 26)⟩,
    ⟨some 28, (some (25, true)), .mv (.tmp 1)⟩,
    ⟨some 29, (some (25, true)), .iaS 2 (.tmp 27) (.tmp 28)⟩,
    ⟨some 30, (some (25, true)), .faddr 0 (.tmp 29)⟩,
    ⟨some 31, (some (25, true)), .ld none (.tmp 30)⟩,
    ⟨some 32, (some (25, true)), .bin .eql (.tmp 31) (.val (.int .i64 0))⟩,
    ⟨some 33, (some (22, false)), .pick (.tmp 25) (.tmp 32) (.val (.bool false))⟩,
    ⟨some 34, none, .pick (.tmp 22) (.val (.bool true)) (.tmp 33)⟩,
    ⟨some 6, none, .mv (.tmp 34)⟩] [] [6])
  (.ret))⟩
theorem pf46_ok : fnOk Try.prog 46 pf46 = true := by kernel_rfl

/-- hinterland/hinterlandref18.line -/
def pf45 : PFn := ⟨52, 1, [.tmp 2], .seq
  (.reg [⟨some 2, none, .mv (.val (.list .nil 1 []))⟩] [] [0])
  (.seq
  (.reg [⟨some 3, none, .mv (.val (.list .nil 1 []))⟩] [] [0, 3])
  (.seq
  (.seq
  (.reg [⟨some 8, none, .mv (.tmp 0)⟩,
    ⟨some 9, none, .len (.tmp 8)⟩,
    ⟨some 10, none, .mv (.val (.int .i64 0))⟩] [] [0, 3, 8, 9, 10])
  (.blk 0 (.loop (.seq
  (.reg [⟨some 11, none, .bin .lss (.tmp 10) (.tmp 9)⟩] [] [0, 3, 8, 9, 10, 11])
  (.seq
  (.cond (.tmp 11)
  (.skip)
  (.ext 0))
  (.seq
  (.blk 1 (.seq
  (.reg [⟨some 12, none, .mv (.tmp 10)⟩,
    ⟨some 13, none, .iaS 5 (.tmp 8) (.tmp 10)⟩,
    ⟨some 14, none, .ld (some 5) (.tmp 13)⟩,
    ⟨some 5, none, .zer 47 (.agg [(.int .i64 0), (.int .i64 0), (.int .i64 0), (.int .i64 0), (.int .i64 0)])⟩,
    ⟨some 4, none, .mv (.tmp 12)⟩,
    ⟨none, none, .st 5 (.tmp 5) (.tmp 14)⟩] [] [0, 3, 4, 5, 8, 9, 10])
  (.seq
  (.seq
  (.reg [⟨some 15, none, .faddr 0 (.tmp 5)⟩,
    ⟨some 16, none, .ld none (.tmp 15)⟩,
    ⟨some 17, none, .bin .lss (.tmp 16) (.val (.int .i64 0))⟩] [] [0, 3, 4, 5, 8, 9, 10, 17])
  (.cond (.tmp 17)
  (.ext 1)
  (.skip)))
  (.seq
  (.reg [⟨some 18, none, .mv (.tmp 3)⟩,
    ⟨some 19, none, .len (.tmp 18)⟩,
    ⟨some 6, none, .mv (.tmp 19)⟩] [] [0, 3, 4, 5, 6, 8, 9, 10])
  (.seq
  (.blk 2 (.loop (.seq
  (.seq
  (.reg [⟨some 20, none, .mv (.tmp 6)⟩,
    ⟨some 21, none, .bin .gtr (.tmp 20) (.val (.int .i64 0))⟩,
    ⟨some 22, none, .mv (.tmp 21)⟩,
    ⟨some 23, (some (22, true)), .mv (.tmp 0)⟩,
    ⟨some 24, (some (22, true)), .mv (.tmp 3)⟩,
    ⟨some 25, (some (22, true)), .mv (.tmp 6)⟩,
    ⟨some 26, (some (22, true)), .bin .sub (.tmp 25) (.val (.int .i64 1))⟩,
    ⟨some 27, (some (22, true)), .iaS 1 (.tmp 24) (.tmp 26)⟩,
    ⟨some 28, (some (22, true)), .ld none (.tmp 27)⟩,
    ⟨some 29, (some (22, true)), .iaS 5 (.tmp 23) (.tmp 28)⟩,
    ⟨some 30, (some (22, true)), .faddr 2 (.tmp 29)⟩,
    ⟨some 31, (some (22, true)), .ld none (.tmp 30)⟩,
    ⟨some 32, (some (22, true)), .faddr 2 (.tmp 5)⟩,
    ⟨some 33, (some (22, true)), .ld none (.tmp 32)⟩,
    ⟨some 34, (some (22, true)), .bin .gtr (.tmp 31) (.tmp 33)⟩,
    ⟨some 35, none, .pick (.tmp 22) (.tmp 34) (.val (.bool false))⟩] [] [0, 3, 4, 5, 6, 8, 9, 10, 35])
  (.cond (.tmp 35)
  (.skip)
  (.ext 2)))
  (.blk 3 (.reg [⟨some 36, none, .mv (.tmp 6)⟩,
    ⟨some 37, none, .bin .sub (.tmp 36) (.val (.int .i64 1))⟩,
    ⟨some 6, none, .mv (.tmp 37)⟩] [] [0, 3, 4, 5, 6, 8, 9, 10])))))
  (.seq
  (.reg [⟨some 38, none, .mv (.tmp 4)⟩,
    ⟨some 39, none, .bsl 1 1 [(.int .i64 0)] [(0, 1, (.tmp 38))]⟩,
    ⟨some 40, none, .mv (.tmp 3)⟩,
    ⟨some 41, none, .mv (.tmp 6)⟩,
    ⟨some 42, none, .slc 1 (.tmp 40) (some (.tmp 41)) none none⟩,
    ⟨some 43, none, .app 3 1 8 (.tmp 39) (.tmp 42)⟩,
    ⟨some 7, none, .mv (.tmp 43)⟩] [] [0, 3, 6, 7, 8, 9, 10])
  (.reg [⟨some 44, none, .mv (.tmp 3)⟩,
    ⟨some 45, none, .mv (.tmp 6)⟩,
    ⟨some 46, none, .slc 1 (.tmp 44) none (some (.tmp 45)) none⟩,
    ⟨some 47, none, .app 3 1 8 (.val (.list .nil 1 [])) (.tmp 46)⟩,
    ⟨some 48, none, .mv (.tmp 7)⟩,
    ⟨some 49, none, .app 3 1 8 (.tmp 47) (.tmp 48)⟩,
    ⟨some 3, none, .mv (.tmp 49)⟩] [] [0, 3, 8, 9, 10])))))))
  (.reg [⟨some 50, none, .bin .add (.tmp 10) (.val (.int .i64 1))⟩,
    ⟨some 10, none, .mv (.tmp 50)⟩] [] [0, 3, 8, 9, 10])))))))
  (.seq
  (.reg [⟨some 51, none, .mv (.tmp 3)⟩,
    ⟨some 2, none, .mv (.tmp 51)⟩] [] [2])
  (.ret))))⟩
theorem pf45_ok : fnOk Try.prog 45 pf45 = true := by kernel_rfl

/-- hinterland/hinterlandref18.copied -/
def pf44 : PFn := ⟨38, 1, [.cell 2 (some 4)], .seq
  (.reg [⟨some 1, none, .boxm 31 (.tmp 0)⟩,
    ⟨some 2, none, .zer 31 (.agg [(.list .nil 2 []), (.int .i64 0), (.list .nil 5 []), (.int .i64 0)])⟩] [] [1, 2])
  (.seq
  (.reg [⟨some 6, none, .faddr 0 (.tmp 1)⟩,
    ⟨some 7, none, .faddr 0 (.tmp 6)⟩,
    ⟨some 8, none, .ld none (.tmp 7)⟩,
    ⟨some 9, none, .len (.tmp 8)⟩,
    ⟨some 10, none, .mks 58 2 32 [(.int .i64 0), (.list .nil 1 [])] (.tmp 9) (.tmp 9)⟩,
    ⟨some 3, none, .mv (.tmp 10)⟩] [] [1, 2, 3])
  (.seq
  (.seq
  (.reg [⟨some 11, none, .faddr 0 (.tmp 1)⟩,
    ⟨some 12, none, .faddr 0 (.tmp 11)⟩,
    ⟨some 13, none, .ld none (.tmp 12)⟩,
    ⟨some 14, none, .len (.tmp 13)⟩,
    ⟨some 15, none, .mv (.val (.int .i64 0))⟩] [] [1, 2, 3, 13, 14, 15])
  (.blk 0 (.loop (.trim (.seq
  (.reg [⟨some 16, none, .bin .lss (.tmp 15) (.tmp 14)⟩] [] [1, 2, 3, 13, 14, 15, 16])
  (.seq
  (.cond (.tmp 16)
  (.skip)
  (.ext 0))
  (.seq
  (.blk 1 (.seq
  (.reg [⟨some 17, none, .mv (.tmp 15)⟩,
    ⟨some 18, none, .iaS 2 (.tmp 13) (.tmp 15)⟩,
    ⟨some 19, none, .ld (some 2) (.tmp 18)⟩,
    ⟨some 5, none, .zer 58 (.agg [(.int .i64 0), (.list .nil 1 [])])⟩,
    ⟨some 4, none, .mv (.tmp 17)⟩,
    ⟨none, none, .st 2 (.tmp 5) (.tmp 19)⟩] [] [1, 2, 3, 4, 5, 13, 14, 15])
  (.reg [⟨some 20, none, .mv (.tmp 3)⟩,
    ⟨some 21, none, .mv (.tmp 4)⟩,
    ⟨some 22, none, .faddr 0 (.tmp 5)⟩,
    ⟨some 23, none, .ld none (.tmp 22)⟩,
    ⟨some 24, none, .faddr 1 (.tmp 5)⟩,
    ⟨some 25, none, .ld none (.tmp 24)⟩,
    ⟨some 26, none, .appp 3 1 8 (.val (.list .nil 1 [])) (.tmp 25)⟩,
    ⟨some 27, none, .bld [(.int .i64 0), (.list .nil 1 [])] [(0, 1, (.tmp 23)), (1, 1, (.tmp 26))]⟩,
    ⟨some 28, none, .iaS 2 (.tmp 20) (.tmp 21)⟩,
    ⟨none, none, .st 2 (.tmp 28) (.tmp 27)⟩] [] [1, 2, 3, 13, 14, 15])))
  (.reg [⟨some 29, none, .bin .add (.tmp 15) (.val (.int .i64 1))⟩,
    ⟨some 15, none, .mv (.tmp 29)⟩] [] [1, 2, 3, 13, 14, 15]))))))))
  (.seq
  (.reg [⟨some 30, none, .mv (.tmp 3)⟩,
    ⟨some 31, none, .faddr 0 (.tmp 1)⟩,
    ⟨some 32, none, .faddr 0 (.tmp 31)⟩,
    ⟨none, none, .st 1 (.tmp 32) (.tmp 30)⟩] [] [1, 2])
  (.seq
  (.reg [⟨some 33, none, .faddr 2 (.tmp 1)⟩,
    ⟨some 34, none, .ld none (.tmp 33)⟩,
    ⟨some 35, none, .app 47 5 40 (.val (.list .nil 5 [])) (.tmp 34)⟩,
    ⟨some 36, none, .faddr 2 (.tmp 1)⟩,
    ⟨none, none, .st 1 (.tmp 36) (.tmp 35)⟩] [] [1, 2])
  (.seq
  (.reg [⟨some 37, none, .ld (some 4) (.tmp 1)⟩,
    ⟨none, none, .st 4 (.tmp 2) (.tmp 37)⟩] [] [2])
  (.ret))))))⟩
theorem pf44_ok : fnOk Try.prog 44 pf44 = true := by kernel_rfl

/-- hinterland/air.way -/
def pf43 : PFn := ⟨151, 4, [.tmp 8, .tmp 9], .seq
  (.reg [⟨some 4, none, .boxp 24 (.tmp 0)⟩,
    ⟨some 5, none, .boxm 3 (.tmp 1)⟩,
    ⟨some 7, none, .boxp 54 (.tmp 3)⟩,
    ⟨some 8, none, .mv (.val (.list .nil 1 []))⟩,
    ⟨some 9, none, .mv (.val (.bool false))⟩] [] [2, 4, 5, 7])
  (.seq
  (.seq
  (.reg [⟨some 21, none, .mv (.tmp 2)⟩,
    ⟨some 22, none, .bin .eql (.tmp 21) (.val (.int .i64 0))⟩,
    ⟨some 23, none, .mv (.tmp 22)⟩,
    ⟨some 24, (some (23, false)), .ld (some 2) (.tmp 4)⟩,
    ⟨some 25, (some (23, false)), .ld none (.tmp 5)⟩,
    ⟨some 26, (some (23, false)), .call 36 .pure [(.tmp 24), (.tmp 25)]⟩,
    ⟨some 27, (some (23, false)), .mv (.tmp 2)⟩,
    ⟨some 28, (some (23, false)), .inv (.tmp 26) "hinterland/air.ends" .pure [(.tmp 27)]⟩,
    ⟨some 29, none, .pick (.tmp 23) (.val (.bool true)) (.tmp 28)⟩] [] [2, 4, 5, 7, 29])
  (.cond (.tmp 29)
  (.seq
  (.reg [⟨some 30, none, .ld none (.tmp 5)⟩,
    ⟨some 31, none, .bsl 1 1 [(.int .i64 0)] [(0, 1, (.tmp 30))]⟩,
    ⟨some 8, none, .mv (.tmp 31)⟩,
    ⟨some 9, none, .mv (.val (.bool true))⟩] [] [8, 9])
  (.ret))
  (.skip)))
  (.seq
  (.reg [⟨some 32, none, .faddr 0 (.tmp 4)⟩,
    ⟨some 33, none, .ld none (.tmp 32)⟩,
    ⟨some 34, none, .len (.tmp 33)⟩,
    ⟨some 35, none, .mks 3 1 8 [(.int .i64 0)] (.tmp 34) (.tmp 34)⟩,
    ⟨some 10, none, .mv (.tmp 35)⟩] [] [2, 4, 5, 7, 10])
  (.seq
  (.seq
  (.reg [⟨some 36, none, .faddr 0 (.tmp 4)⟩,
    ⟨some 37, none, .ld none (.tmp 36)⟩,
    ⟨some 38, none, .len (.tmp 37)⟩,
    ⟨some 39, none, .mv (.val (.int .i64 0))⟩] [] [2, 4, 5, 7, 10, 38, 39])
  (.blk 0 (.loop (.seq
  (.reg [⟨some 40, none, .bin .lss (.tmp 39) (.tmp 38)⟩] [] [2, 4, 5, 7, 10, 38, 39, 40])
  (.seq
  (.cond (.tmp 40)
  (.skip)
  (.ext 0))
  (.seq
  (.blk 1 (.seq
  (.reg [⟨some 41, none, .mv (.tmp 39)⟩,
    ⟨some 11, none, .mv (.tmp 41)⟩] [] [2, 4, 5, 7, 10, 11, 38, 39])
  (.seq
  (.reg [⟨some 42, none, .mv (.tmp 10)⟩,
    ⟨some 43, none, .mv (.tmp 11)⟩,
    ⟨some 44, none, .iaS 1 (.tmp 42) (.tmp 43)⟩,
    ⟨none, none, .st 1 (.tmp 44) (.val (.int .i64 (-1)))⟩] [] [2, 4, 5, 7, 10, 11, 38, 39])
  (.seq
  (.reg [⟨some 45, none, .ld (some 2) (.tmp 4)⟩,
    ⟨some 46, none, .mv (.tmp 11)⟩,
    ⟨some 47, none, .call 36 .pure [(.tmp 45), (.tmp 46)]⟩,
    ⟨some 48, none, .mv (.tmp 2)⟩,
    ⟨some 49, none, .inv (.tmp 47) "hinterland/air.ends" .pure [(.tmp 48)]⟩,
    ⟨some 50, none, .mv (.tmp 49)⟩,
    ⟨some 51, (some (50, true)), .ld none (.tmp 7)⟩,
    ⟨some 52, (some (50, true)), .mv (.tmp 11)⟩,
    ⟨some 53, (some (50, true)), .callv (.tmp 51) .pure [(.tmp 52)]⟩,
    ⟨some 54, (some (50, true)), .mv (.tmp 53)⟩,
    ⟨some 55, (some (54, false)), .mv (.tmp 11)⟩,
    ⟨some 56, (some (54, false)), .ld none (.tmp 5)⟩,
    ⟨some 57, (some (54, false)), .bin .eql (.tmp 55) (.tmp 56)⟩,
    ⟨some 58, (some (50, true)), .pick (.tmp 54) (.val (.bool true)) (.tmp 57)⟩,
    ⟨some 59, none, .pick (.tmp 50) (.tmp 58) (.val (.bool false))⟩] [] [2, 4, 5, 7, 10, 11, 38, 39, 59])
  (.cond (.tmp 59)
  (.reg [⟨some 60, none, .mv (.tmp 10)⟩,
    ⟨some 61, none, .mv (.tmp 11)⟩,
    ⟨some 62, none, .iaS 1 (.tmp 60) (.tmp 61)⟩,
    ⟨none, none, .st 1 (.tmp 62) (.val (.int .i64 0))⟩] [] [2, 4, 5, 7, 10, 38, 39])
  (.skip))))))
  (.reg [⟨some 63, none, .bin .add (.tmp 39) (.val (.int .i64 1))⟩,
    ⟨some 39, none, .mv (.tmp 63)⟩] [] [2, 4, 5, 7, 10, 38, 39])))))))
  (.seq
  (.reg [⟨some 64, none, .mkf (.func 54) [] [(.tmp 5), (.tmp 7), (.tmp 4)]⟩,
    ⟨some 12, none, .mv (.tmp 64)⟩] [] [4, 5, 10, 12])
  (.seq
  (.seq
  (.reg [⟨some 65, none, .faddr 0 (.tmp 4)⟩,
    ⟨some 66, none, .ld none (.tmp 65)⟩,
    ⟨some 67, none, .len (.tmp 66)⟩,
    ⟨some 68, none, .mv (.val (.int .i64 0))⟩] [] [4, 5, 10, 12, 67, 68])
  (.blk 2 (.loop (.trim (.seq
  (.reg [⟨some 69, none, .bin .lss (.tmp 68) (.tmp 67)⟩] [] [4, 5, 10, 12, 67, 68, 69])
  (.seq
  (.cond (.tmp 69)
  (.skip)
  (.ext 2))
  (.seq
  (.blk 3 (.seq
  (.reg [⟨some 70, none, .mv (.tmp 68)⟩,
    ⟨some 13, none, .mv (.tmp 70)⟩] [] [4, 5, 10, 12, 13, 67, 68])
  (.seq
  (.reg [⟨some 71, none, .faddr 0 (.tmp 4)⟩,
    ⟨some 72, none, .ld none (.tmp 71)⟩,
    ⟨some 73, none, .len (.tmp 72)⟩,
    ⟨some 74, none, .mv (.val (.int .i64 0))⟩] [] [4, 5, 10, 12, 13, 67, 68, 72, 73, 74])
  (.blk 4 (.loop (.trim (.seq
  (.reg [⟨some 75, none, .bin .lss (.tmp 74) (.tmp 73)⟩] [] [4, 5, 10, 12, 13, 67, 68, 72, 73, 74, 75])
  (.seq
  (.cond (.tmp 75)
  (.skip)
  (.ext 4))
  (.seq
  (.blk 5 (.seq
  (.reg [⟨some 76, none, .mv (.tmp 74)⟩,
    ⟨some 77, none, .iaS 2 (.tmp 72) (.tmp 74)⟩,
    ⟨some 78, none, .ld (some 2) (.tmp 77)⟩,
    ⟨some 15, none, .zer 58 (.agg [(.int .i64 0), (.list .nil 1 [])])⟩,
    ⟨some 14, none, .mv (.tmp 76)⟩,
    ⟨none, none, .st 2 (.tmp 15) (.tmp 78)⟩] [] [4, 5, 10, 12, 13, 14, 15, 67, 68, 72, 73, 74])
  (.seq
  (.seq
  (.reg [⟨some 79, none, .mv (.tmp 10)⟩,
    ⟨some 80, none, .mv (.tmp 14)⟩,
    ⟨some 81, none, .iaS 1 (.tmp 79) (.tmp 80)⟩,
    ⟨some 82, none, .ld none (.tmp 81)⟩,
    ⟨some 83, none, .bin .geq (.tmp 82) (.val (.int .i64 0))⟩,
    ⟨some 84, none, .mv (.tmp 83)⟩,
    ⟨some 85, (some (84, false)), .mv (.tmp 12)⟩,
    ⟨some 86, (some (84, false)), .mv (.tmp 14)⟩,
    ⟨some 87, (some (84, false)), .callv (.tmp 85) .pure [(.tmp 86)]⟩,
    ⟨some 88, (some (84, false)), .un .not (.tmp 87)⟩,
    ⟨some 89, none, .pick (.tmp 84) (.val (.bool true)) (.tmp 88)⟩] [] [4, 5, 10, 12, 13, 14, 15, 67, 68, 72, 73, 74, 89])
  (.cond (.tmp 89)
  (.ext 5)
  (.skip)))
  (.seq
  (.reg [⟨some 90, none, .faddr 1 (.tmp 15)⟩,
    ⟨some 91, none, .ld none (.tmp 90)⟩,
    ⟨some 92, none, .len (.tmp 91)⟩,
    ⟨some 93, none, .mv (.val (.int .i64 0))⟩] [] [4, 5, 10, 12, 13, 14, 67, 68, 72, 73, 74, 91, 92, 93])
  (.blk 6 (.loop (.seq
  (.reg [⟨some 94, none, .bin .lss (.tmp 93) (.tmp 92)⟩] [] [4, 5, 10, 12, 13, 14, 67, 68, 72, 73, 74, 91, 92, 93, 94])
  (.seq
  (.cond (.tmp 94)
  (.skip)
  (.ext 6))
  (.seq
  (.blk 7 (.seq
  (.reg [⟨some 95, none, .iaS 1 (.tmp 91) (.tmp 93)⟩,
    ⟨some 96, none, .ld none (.tmp 95)⟩,
    ⟨some 17, none, .mv (.tmp 96)⟩] [] [4, 5, 10, 12, 13, 14, 17, 67, 68, 72, 73, 74, 91, 92, 93])
  (.seq
  (.reg [⟨some 97, none, .mv (.tmp 10)⟩,
    ⟨some 98, none, .mv (.tmp 17)⟩,
    ⟨some 99, none, .iaS 1 (.tmp 97) (.tmp 98)⟩,
    ⟨some 100, none, .ld none (.tmp 99)⟩,
    ⟨some 101, none, .mv (.tmp 13)⟩,
    ⟨some 102, none, .bin .eql (.tmp 100) (.tmp 101)⟩] [] [4, 5, 10, 12, 13, 14, 67, 68, 72, 73, 74, 91, 92, 93, 102])
  (.cond (.tmp 102)
  (.reg [⟨some 103, none, .mv (.tmp 10)⟩,
    ⟨some 104, none, .mv (.tmp 14)⟩,
    ⟨some 105, none, .mv (.tmp 13)⟩,
    ⟨some 106, none, .bin .add (.tmp 105) (.val (.int .i64 1))⟩,
    ⟨some 107, none, .iaS 1 (.tmp 103) (.tmp 104)⟩,
    ⟨none, none, .st 1 (.tmp 107) (.tmp 106)⟩] [] [4, 5, 10, 12, 13, 14, 67, 68, 72, 73, 74, 91, 92, 93])
  (.skip)))))
  (.reg [⟨some 108, none, .bin .add (.tmp 93) (.val (.int .i64 1))⟩,
    ⟨some 93, none, .mv (.tmp 108)⟩] [] [4, 5, 10, 12, 13, 14, 67, 68, 72, 73, 74, 91, 92, 93]))))))))))
  (.reg [⟨some 109, none, .bin .add (.tmp 74) (.val (.int .i64 1))⟩,
    ⟨some 74, none, .mv (.tmp 109)⟩] [] [4, 5, 10, 12, 13, 67, 68, 72, 73, 74]))))))))))
  (.reg [⟨some 110, none, .bin .add (.tmp 68) (.val (.int .i64 1))⟩,
    ⟨some 68, none, .mv (.tmp 110)⟩] [] [4, 5, 10, 12, 67, 68]))))))))
  (.seq
  (.seq
  (.reg [⟨some 111, none, .mv (.tmp 10)⟩,
    ⟨some 112, none, .ld none (.tmp 5)⟩,
    ⟨some 113, none, .iaS 1 (.tmp 111) (.tmp 112)⟩,
    ⟨some 114, none, .ld none (.tmp 113)⟩,
    ⟨some 115, none, .bin .lss (.tmp 114) (.val (.int .i64 0))⟩] [] [4, 5, 10, 115])
  (.cond (.tmp 115)
  (.seq
  (.reg [⟨some 8, none, .mv (.val (.list .nil 1 []))⟩,
    ⟨some 9, none, .mv (.val (.bool false))⟩] [] [8, 9])
  (.ret))
  (.skip)))
  (.seq
  (.reg [⟨some 116, none, .ld none (.tmp 5)⟩,
    ⟨some 117, none, .bslm 3 1 1 [(.int .i64 0)] [(0, 1, (.tmp 116))]⟩,
    ⟨some 18, none, .mv (.tmp 117)⟩] [] [4, 5, 10, 18])
  (.seq
  (.blk 8 (.loop (.seq
  (.seq
  (.reg [⟨some 118, none, .mv (.tmp 10)⟩,
    ⟨some 119, none, .ld none (.tmp 5)⟩,
    ⟨some 120, none, .iaS 1 (.tmp 118) (.tmp 119)⟩,
    ⟨some 121, none, .ld none (.tmp 120)⟩,
    ⟨some 122, none, .bin .gtr (.tmp 121) (.val (.int .i64 0))⟩] [] [4, 5, 10, 18, 122])
  (.cond (.tmp 122)
  (.skip)
  (.ext 8)))
  (.blk 9 (.seq
  (.seq
  (.reg [⟨some 123, none, .faddr 0 (.tmp 4)⟩,
    ⟨some 124, none, .ld none (.tmp 123)⟩,
    ⟨some 125, none, .ld none (.tmp 5)⟩,
    ⟨some 126, none, .iaS 2 (.tmp 124) (.tmp 125)⟩,
    ⟨some 127, none, .faddr 1 (.tmp 126)⟩,
    ⟨some 128, none, .ld none (.tmp 127)⟩,
    ⟨some 129, none, .len (.tmp 128)⟩,
    ⟨some 130, none, .mv (.val (.int .i64 0))⟩] [] [4, 5, 10, 18, 128, 129, 130])
  (.blk 10 (.loop (.seq
  (.reg [⟨some 131, none, .bin .lss (.tmp 130) (.tmp 129)⟩] [] [4, 5, 10, 18, 128, 129, 130, 131])
  (.seq
  (.cond (.tmp 131)
  (.skip)
  (.ext 10))
  (.seq
  (.blk 11 (.seq
  (.reg [⟨some 132, none, .iaS 1 (.tmp 128) (.tmp 130)⟩,
    ⟨some 133, none, .ld none (.tmp 132)⟩,
    ⟨some 20, none, .mv (.tmp 133)⟩] [] [4, 5, 10, 18, 20, 128, 129, 130])
  (.seq
  (.reg [⟨some 134, none, .mv (.tmp 10)⟩,
    ⟨some 135, none, .mv (.tmp 20)⟩,
    ⟨some 136, none, .iaS 1 (.tmp 134) (.tmp 135)⟩,
    ⟨some 137, none, .ld none (.tmp 136)⟩,
    ⟨some 138, none, .mv (.tmp 10)⟩,
    ⟨some 139, none, .ld none (.tmp 5)⟩,
    ⟨some 140, none, .iaS 1 (.tmp 138) (.tmp 139)⟩,
    ⟨some 141, none, .ld none (.tmp 140)⟩,
    ⟨some 142, none, .bin .sub (.tmp 141) (.val (.int .i64 1))⟩,
    ⟨some 143, none, .bin .eql (.tmp 137) (.tmp 142)⟩] [] [4, 5, 10, 18, 20, 128, 129, 130, 143])
  (.cond (.tmp 143)
  (.seq
  (.reg [⟨some 144, none, .mv (.tmp 20)⟩,
    ⟨none, none, .st 1 (.tmp 5) (.tmp 144)⟩] [] [4, 5, 10, 18])
  (.ext 10))
  (.skip)))))
  (.reg [⟨some 145, none, .bin .add (.tmp 130) (.val (.int .i64 1))⟩,
    ⟨some 130, none, .mv (.tmp 145)⟩] [] [4, 5, 10, 18, 128, 129, 130])))))))
  (.reg [⟨some 146, none, .mv (.tmp 18)⟩,
    ⟨some 147, none, .ld none (.tmp 5)⟩,
    ⟨some 148, none, .bsl 1 1 [(.int .i64 0)] [(0, 1, (.tmp 147))]⟩,
    ⟨some 149, none, .app 3 1 8 (.tmp 146) (.tmp 148)⟩,
    ⟨some 18, none, .mv (.tmp 149)⟩] [] [4, 5, 10, 18]))))))
  (.seq
  (.reg [⟨some 150, none, .mv (.tmp 18)⟩,
    ⟨some 8, none, .mv (.tmp 150)⟩,
    ⟨some 9, none, .mv (.val (.bool true))⟩] [] [8, 9])
  (.ret))))))))))⟩
theorem pf43_ok : fnOk Try.prog 43 pf43 = true := by kernel_rfl

/-- hinterland/air.Step_2_1 -/
def pf42 : PFn := ⟨8, 2, [.tmp 3], .seq
  (.reg [⟨some 2, none, .boxp 47 (.tmp 0)⟩,
    ⟨some 3, none, .mv (.val (.bool false))⟩] [] [1, 2])
  (.seq
  (.reg [⟨some 4, none, .faddr 0 (.tmp 2)⟩,
    ⟨some 5, none, .ld none (.tmp 4)⟩,
    ⟨some 6, none, .ld none (.tmp 1)⟩,
    ⟨some 7, none, .bin .eql (.tmp 5) (.tmp 6)⟩,
    ⟨some 3, none, .mv (.tmp 7)⟩] [] [3])
  (.ret))⟩
theorem pf42_ok : fnOk Try.prog 42 pf42 = true := by kernel_rfl

/-- slices.ContainsFunc[[]hinterland/api.Plane,hinterland/api.Plane] -/
def pf41 : PFn := ⟨9, 2, [.tmp 4], .seq
  (.reg [⟨some 4, none, .mv (.val (.bool false))⟩] [] [0, 1])
  (.seq
  (.reg [⟨some 5, none, .mv (.tmp 0)⟩,
    ⟨some 6, none, .mv (.tmp 1)⟩,
    ⟨some 7, none, .call 53 .pure [(.tmp 5), (.tmp 6)]⟩,
    ⟨some 8, none, .bin .geq (.tmp 7) (.val (.int .i64 0))⟩,
    ⟨some 4, none, .mv (.tmp 8)⟩] [] [4])
  (.ret))⟩
theorem pf41_ok : fnOk Try.prog 41 pf41 = true := by kernel_rfl

/-- hinterland/air.Step_2 -/
def pf40 : PFn := ⟨16, 2, [.tmp 3], .seq
  (.reg [⟨some 2, none, .boxp 3 (.tmp 0)⟩,
    ⟨some 3, none, .mv (.val (.bool false))⟩] [] [1, 2])
  (.seq
  (.reg [⟨some 4, none, .faddr 0 (.tmp 1)⟩,
    ⟨some 5, none, .ld (some 2) (.tmp 4)⟩,
    ⟨some 6, none, .ld none (.tmp 2)⟩,
    ⟨some 7, none, .call 36 .pure [(.tmp 5), (.tmp 6)]⟩,
    ⟨some 8, none, .inv (.tmp 7) "hinterland/air.many" .pure []⟩,
    ⟨some 9, none, .mv (.tmp 8)⟩,
    ⟨some 10, (some (9, false)), .faddr 2 (.tmp 1)⟩,
    ⟨some 11, (some (9, false)), .ld none (.tmp 10)⟩,
    ⟨some 12, (some (9, false)), .mkf (.func 42) [] [(.tmp 2)]⟩,
    ⟨some 13, (some (9, false)), .call 41 .pure [(.tmp 11), (.tmp 12)]⟩,
    ⟨some 14, (some (9, false)), .un .not (.tmp 13)⟩,
    ⟨some 15, none, .pick (.tmp 9) (.val (.bool true)) (.tmp 14)⟩,
    ⟨some 3, none, .mv (.tmp 15)⟩] [] [3])
  (.ret))⟩
theorem pf40_ok : fnOk Try.prog 40 pf40 = true := by kernel_rfl

/-- hinterland/air.Step_1 -/
def pf39 : PFn := ⟨19, 3, [.tmp 5], .seq
  (.reg [⟨some 5, none, .mv (.val (.int .i64 0))⟩] [] [0, 1, 2])
  (.seq
  (.reg [⟨some 6, none, .faddr 2 (.tmp 2)⟩,
    ⟨some 7, none, .ld none (.tmp 6)⟩,
    ⟨some 8, none, .mv (.tmp 0)⟩,
    ⟨some 9, none, .iaS 5 (.tmp 7) (.tmp 8)⟩,
    ⟨some 10, none, .faddr 2 (.tmp 9)⟩,
    ⟨some 11, none, .ld none (.tmp 10)⟩,
    ⟨some 12, none, .faddr 2 (.tmp 2)⟩,
    ⟨some 13, none, .ld none (.tmp 12)⟩,
    ⟨some 14, none, .mv (.tmp 1)⟩,
    ⟨some 15, none, .iaS 5 (.tmp 13) (.tmp 14)⟩,
    ⟨some 16, none, .faddr 2 (.tmp 15)⟩,
    ⟨some 17, none, .ld none (.tmp 16)⟩,
    ⟨some 18, none, .bin .sub (.tmp 11) (.tmp 17)⟩,
    ⟨some 5, none, .mv (.tmp 18)⟩] [] [5])
  (.ret))⟩
theorem pf39_ok : fnOk Try.prog 39 pf39 = true := by kernel_rfl

/-- slices.SortStableFunc[[]int,int] -/
def pf38 : PFn := ⟨9, 2, [], .reg [⟨some 4, none, .mv (.tmp 0)⟩,
    ⟨some 5, none, .mv (.tmp 0)⟩,
    ⟨some 6, none, .len (.tmp 5)⟩,
    ⟨some 7, none, .mv (.tmp 1)⟩,
    ⟨some 8, none, .call 52 .opn [(.tmp 4), (.tmp 6), (.tmp 7)]⟩] [] []⟩
theorem pf38_ok : fnOk Try.prog 38 pf38 = true := by kernel_rfl

/-- hinterland/air.clone -/
def pf37 : PFn := ⟨32, 1, [.cell 2 (some 4)], .seq
  (.reg [⟨some 1, none, .boxm 31 (.tmp 0)⟩,
    ⟨some 2, none, .zer 31 (.agg [(.list .nil 2 []), (.int .i64 0), (.list .nil 5 []), (.int .i64 0)])⟩] [] [1, 2])
  (.seq
  (.reg [⟨some 6, none, .faddr 2 (.tmp 1)⟩,
    ⟨some 7, none, .ld none (.tmp 6)⟩,
    ⟨some 8, none, .app 47 5 40 (.val (.list .nil 5 [])) (.tmp 7)⟩,
    ⟨some 9, none, .faddr 2 (.tmp 1)⟩,
    ⟨none, none, .st 1 (.tmp 9) (.tmp 8)⟩] [] [1, 2])
  (.seq
  (.reg [⟨some 3, none, .nacc 58 2⟩] [] [1, 2, 3])
  (.seq
  (.seq
  (.reg [⟨some 10, none, .faddr 0 (.tmp 1)⟩,
    ⟨some 11, none, .faddr 0 (.tmp 10)⟩,
    ⟨some 12, none, .ld none (.tmp 11)⟩,
    ⟨some 13, none, .len (.tmp 12)⟩,
    ⟨some 14, none, .mv (.val (.int .i64 0))⟩] [] [1, 2, 3, 12, 13, 14])
  (.blk 0 (.loop (.trim (.seq
  (.reg [⟨some 15, none, .bin .lss (.tmp 14) (.tmp 13)⟩] [] [1, 2, 3, 12, 13, 14, 15])
  (.seq
  (.cond (.tmp 15)
  (.skip)
  (.ext 0))
  (.seq
  (.blk 1 (.seq
  (.reg [⟨some 16, none, .iaS 2 (.tmp 12) (.tmp 14)⟩,
    ⟨some 17, none, .ld (some 2) (.tmp 16)⟩,
    ⟨some 5, none, .zer 58 (.agg [(.int .i64 0), (.list .nil 1 [])])⟩,
    ⟨none, none, .st 2 (.tmp 5) (.tmp 17)⟩] [] [1, 2, 3, 5, 12, 13, 14])
  (.reg [⟨some 18, none, .mv (.tmp 3)⟩,
    ⟨some 19, none, .faddr 0 (.tmp 5)⟩,
    ⟨some 20, none, .ld none (.tmp 19)⟩,
    ⟨some 21, none, .faddr 1 (.tmp 5)⟩,
    ⟨some 22, none, .ld none (.tmp 21)⟩,
    ⟨some 23, none, .appp 3 1 8 (.val (.list .nil 1 [])) (.tmp 22)⟩,
    ⟨some 24, none, .bld [(.int .i64 0), (.list .nil 1 [])] [(0, 1, (.tmp 20)), (1, 1, (.tmp 23))]⟩,
    ⟨some 25, none, .bsl 1 2 [(.int .i64 0), (.list .nil 1 [])] [(0, 2, (.tmp 24))]⟩,
    ⟨some 26, none, .app 58 2 32 (.tmp 18) (.tmp 25)⟩,
    ⟨some 3, none, .mv (.tmp 26)⟩] [] [1, 2, 3, 12, 13, 14])))
  (.reg [⟨some 27, none, .bin .add (.tmp 14) (.val (.int .i64 1))⟩,
    ⟨some 14, none, .mv (.tmp 27)⟩] [] [1, 2, 3, 12, 13, 14]))))))))
  (.seq
  (.reg [⟨some 28, none, .mv (.tmp 3)⟩,
    ⟨some 29, none, .faddr 0 (.tmp 1)⟩,
    ⟨some 30, none, .faddr 0 (.tmp 29)⟩,
    ⟨none, none, .st 1 (.tmp 30) (.tmp 28)⟩] [] [1, 2])
  (.seq
  (.reg [⟨some 31, none, .ld (some 4) (.tmp 1)⟩,
    ⟨none, none, .st 4 (.tmp 2) (.tmp 31)⟩] [] [2])
  (.ret))))))⟩
theorem pf37_ok : fnOk Try.prog 37 pf37 = true := by kernel_rfl

/-- hinterland/air.nodeOf -/
def pf36 : PFn := ⟨22, 2, [.tmp 4], .seq
  (.reg [⟨some 2, none, .boxp 24 (.tmp 0)⟩,
    ⟨some 4, none, .mv (.val .nilif)⟩] [] [1, 2])
  (.seq
  (.seq
  (.reg [⟨some 5, none, .faddr 0 (.tmp 2)⟩,
    ⟨some 6, none, .ld none (.tmp 5)⟩,
    ⟨some 7, none, .mv (.tmp 1)⟩,
    ⟨some 8, none, .iaS 2 (.tmp 6) (.tmp 7)⟩,
    ⟨some 9, none, .faddr 0 (.tmp 8)⟩,
    ⟨some 10, none, .ld none (.tmp 9)⟩,
    ⟨some 11, none, .bin .eql (.tmp 10) (.val (.int .i64 0))⟩] [] [1, 2, 11])
  (.cond (.tmp 11)
  (.seq
  (.reg [⟨some 12, none, .bld [] []⟩,
    ⟨some 13, none, .mkif 78 (.tmp 12)⟩,
    ⟨some 4, none, .mv (.tmp 13)⟩] [] [4])
  (.ret))
  (.skip)))
  (.seq
  (.reg [⟨some 14, none, .faddr 0 (.tmp 2)⟩,
    ⟨some 15, none, .ld none (.tmp 14)⟩,
    ⟨some 16, none, .mv (.tmp 1)⟩,
    ⟨some 17, none, .iaS 2 (.tmp 15) (.tmp 16)⟩,
    ⟨some 18, none, .faddr 0 (.tmp 17)⟩,
    ⟨some 19, none, .ld none (.tmp 18)⟩,
    ⟨some 20, none, .bld [(.int .i64 0)] [(0, 1, (.tmp 19))]⟩,
    ⟨some 21, none, .mkif 80 (.tmp 20)⟩,
    ⟨some 4, none, .mv (.tmp 21)⟩] [] [4])
  (.ret)))⟩
theorem pf36_ok : fnOk Try.prog 36 pf36 = true := by kernel_rfl

/-- hinterland/hinterlandref18.within -/
def pf35 : PFn := ⟨15, 3, [.tmp 6], .seq
  (.reg [⟨some 6, none, .mv (.val (.bool false))⟩] [] [0, 1, 2])
  (.seq
  (.reg [⟨some 7, none, .mv (.tmp 0)⟩,
    ⟨some 8, none, .mv (.tmp 1)⟩,
    ⟨some 9, none, .bin .geq (.tmp 7) (.tmp 8)⟩,
    ⟨some 10, none, .mv (.tmp 9)⟩,
    ⟨some 11, (some (10, true)), .mv (.tmp 0)⟩,
    ⟨some 12, (some (10, true)), .mv (.tmp 2)⟩,
    ⟨some 13, (some (10, true)), .bin .leq (.tmp 11) (.tmp 12)⟩,
    ⟨some 14, none, .pick (.tmp 10) (.tmp 13) (.val (.bool false))⟩,
    ⟨some 6, none, .mv (.tmp 14)⟩] [] [6])
  (.ret))⟩
theorem pf35_ok : fnOk Try.prog 35 pf35 = true := by kernel_rfl

/-- hinterland/hinterlandlaw18.on -/
def pf34 : PFn := ⟨24, 3, [.tmp 6], .seq
  (.reg [⟨some 3, none, .boxp 24 (.tmp 0)⟩,
    ⟨some 6, none, .mv (.val (.bool false))⟩] [] [1, 2, 3])
  (.seq
  (.seq
  (.reg [⟨some 9, none, .faddr 0 (.tmp 3)⟩,
    ⟨some 10, none, .ld none (.tmp 9)⟩,
    ⟨some 11, none, .mv (.tmp 1)⟩,
    ⟨some 12, none, .iaS 2 (.tmp 10) (.tmp 11)⟩,
    ⟨some 13, none, .faddr 1 (.tmp 12)⟩,
    ⟨some 14, none, .ld none (.tmp 13)⟩,
    ⟨some 15, none, .len (.tmp 14)⟩,
    ⟨some 16, none, .mv (.val (.int .i64 0))⟩] [] [2, 14, 15, 16])
  (.blk 0 (.loop (.seq
  (.reg [⟨some 17, none, .bin .lss (.tmp 16) (.tmp 15)⟩] [] [2, 14, 15, 16, 17])
  (.seq
  (.cond (.tmp 17)
  (.skip)
  (.ext 0))
  (.seq
  (.blk 1 (.seq
  (.reg [⟨some 18, none, .iaS 1 (.tmp 14) (.tmp 16)⟩,
    ⟨some 19, none, .ld none (.tmp 18)⟩,
    ⟨some 8, none, .mv (.tmp 19)⟩] [] [2, 8, 14, 15, 16])
  (.seq
  (.reg [⟨some 20, none, .mv (.tmp 8)⟩,
    ⟨some 21, none, .mv (.tmp 2)⟩,
    ⟨some 22, none, .bin .eql (.tmp 20) (.tmp 21)⟩] [] [2, 14, 15, 16, 22])
  (.cond (.tmp 22)
  (.seq
  (.reg [⟨some 6, none, .mv (.val (.bool true))⟩] [] [6])
  (.ret))
  (.skip)))))
  (.reg [⟨some 23, none, .bin .add (.tmp 16) (.val (.int .i64 1))⟩,
    ⟨some 16, none, .mv (.tmp 23)⟩] [] [2, 14, 15, 16])))))))
  (.seq
  (.reg [⟨some 6, none, .mv (.val (.bool false))⟩] [] [6])
  (.ret)))⟩
theorem pf34_ok : fnOk Try.prog 34 pf34 = true := by kernel_rfl

/-- hinterland/air.Ask -/
def pf33 : PFn := ⟨66, 3, [.cell 6 (some 4), .tmp 7], .seq
  (.reg [⟨some 3, none, .boxp 31 (.tmp 0)⟩,
    ⟨some 6, none, .zer 31 (.agg [(.list .nil 2 []), (.int .i64 0), (.list .nil 5 []), (.int .i64 0)])⟩,
    ⟨some 7, none, .mv (.val (.int .i64 0))⟩] [] [1, 2, 3, 6])
  (.seq
  (.seq
  (.reg [⟨some 10, none, .ld (some 4) (.tmp 3)⟩,
    ⟨some 11, none, .call 17 .pure [(.tmp 10)]⟩,
    ⟨some 8, none, .mv (.tmp 11)⟩] [] [1, 2, 3, 6, 8])
  (.seq
  (.reg [⟨some 12, none, .mv (.tmp 8)⟩,
    ⟨some 13, none, .bin .neq (.tmp 12) (.val (.int .i64 0))⟩] [] [1, 2, 3, 6, 8, 13])
  (.cond (.tmp 13)
  (.seq
  (.reg [⟨some 14, none, .bld [(.list .nil 2 []), (.int .i64 0), (.list .nil 5 []), (.int .i64 0)] []⟩,
    ⟨some 15, none, .mv (.tmp 8)⟩,
    ⟨none, none, .st 4 (.tmp 6) (.tmp 14)⟩,
    ⟨some 7, none, .mv (.tmp 15)⟩] [] [6, 7])
  (.ret))
  (.skip))))
  (.seq
  (.seq
  (.reg [⟨some 16, none, .mv (.tmp 1)⟩,
    ⟨some 17, none, .bin .lss (.tmp 16) (.val (.int .i64 0))⟩,
    ⟨some 18, none, .mv (.tmp 17)⟩,
    ⟨some 19, (some (18, false)), .mv (.tmp 1)⟩,
    ⟨some 20, (some (18, false)), .faddr 2 (.tmp 3)⟩,
    ⟨some 21, (some (18, false)), .ld none (.tmp 20)⟩,
    ⟨some 22, (some (18, false)), .len (.tmp 21)⟩,
    ⟨some 23, (some (18, false)), .bin .geq (.tmp 19) (.tmp 22)⟩,
    ⟨some 24, none, .pick (.tmp 18) (.val (.bool true)) (.tmp 23)⟩] [] [1, 2, 3, 6, 24])
  (.cond (.tmp 24)
  (.seq
  (.reg [⟨some 25, none, .bld [(.list .nil 2 []), (.int .i64 0), (.list .nil 5 []), (.int .i64 0)] []⟩,
    ⟨none, none, .st 4 (.tmp 6) (.tmp 25)⟩,
    ⟨some 7, none, .mv (.val (.int .i64 2))⟩] [] [6, 7])
  (.ret))
  (.skip)))
  (.seq
  (.seq
  (.reg [⟨some 26, none, .faddr 2 (.tmp 3)⟩,
    ⟨some 27, none, .ld none (.tmp 26)⟩,
    ⟨some 28, none, .mv (.tmp 1)⟩,
    ⟨some 29, none, .iaS 5 (.tmp 27) (.tmp 28)⟩,
    ⟨some 30, none, .faddr 0 (.tmp 29)⟩,
    ⟨some 31, none, .ld none (.tmp 30)⟩,
    ⟨some 32, none, .bin .lss (.tmp 31) (.val (.int .i64 0))⟩,
    ⟨some 33, none, .mv (.tmp 32)⟩,
    ⟨some 34, (some (33, false)), .faddr 2 (.tmp 3)⟩,
    ⟨some 35, (some (33, false)), .ld none (.tmp 34)⟩,
    ⟨some 36, (some (33, false)), .mv (.tmp 1)⟩,
    ⟨some 37, (some (33, false)), .iaS 5 (.tmp 35) (.tmp 36)⟩,
    ⟨some 38, (some (33, false)), .faddr 1 (.tmp 37)⟩,
    ⟨some 39, (some (33, false)), .ld none (.tmp 38)⟩,
    ⟨some 40, (some (33, false)), .bin .neq (.tmp 39) (.val (.int .i64 0))⟩,
    ⟨some 41, none, .pick (.tmp 33) (.val (.bool true)) (.tmp 40)⟩] [] [1, 2, 3, 6, 41])
  (.cond (.tmp 41)
  (.seq
  (.reg [⟨some 42, none, .bld [(.list .nil 2 []), (.int .i64 0), (.list .nil 5 []), (.int .i64 0)] []⟩,
    ⟨none, none, .st 4 (.tmp 6) (.tmp 42)⟩,
    ⟨some 7, none, .mv (.val (.int .i64 13))⟩] [] [6, 7])
  (.ret))
  (.skip)))
  (.seq
  (.seq
  (.reg [⟨some 43, none, .mv (.tmp 2)⟩,
    ⟨some 44, none, .bin .neq (.tmp 43) (.val (.int .i64 1))⟩,
    ⟨some 45, none, .mv (.tmp 44)⟩,
    ⟨some 46, (some (45, true)), .mv (.tmp 2)⟩,
    ⟨some 47, (some (45, true)), .bin .neq (.tmp 46) (.val (.int .i64 2))⟩,
    ⟨some 48, none, .pick (.tmp 45) (.tmp 47) (.val (.bool false))⟩] [] [1, 2, 3, 6, 48])
  (.cond (.tmp 48)
  (.seq
  (.reg [⟨some 49, none, .bld [(.list .nil 2 []), (.int .i64 0), (.list .nil 5 []), (.int .i64 0)] []⟩,
    ⟨none, none, .st 4 (.tmp 6) (.tmp 49)⟩,
    ⟨some 7, none, .mv (.val (.int .i64 1))⟩] [] [6, 7])
  (.ret))
  (.skip)))
  (.seq
  (.reg [⟨some 50, none, .ld (some 4) (.tmp 3)⟩,
    ⟨some 51, none, .call 37 .opn [(.tmp 50)]⟩,
    ⟨some 9, none, .zer 31 (.agg [(.list .nil 2 []), (.int .i64 0), (.list .nil 5 []), (.int .i64 0)])⟩,
    ⟨none, none, .st 4 (.tmp 9) (.tmp 51)⟩] [] [1, 2, 3, 6, 9])
  (.seq
  (.reg [⟨some 52, none, .faddr 2 (.tmp 9)⟩,
    ⟨some 53, none, .ld none (.tmp 52)⟩,
    ⟨some 54, none, .mv (.tmp 1)⟩,
    ⟨some 55, none, .faddr 2 (.tmp 9)⟩,
    ⟨some 56, none, .ld none (.tmp 55)⟩,
    ⟨some 57, none, .mv (.tmp 1)⟩,
    ⟨some 58, none, .mv (.tmp 2)⟩,
    ⟨some 59, none, .faddr 3 (.tmp 3)⟩,
    ⟨some 60, none, .ld none (.tmp 59)⟩,
    ⟨some 61, none, .iaS 5 (.tmp 53) (.tmp 54)⟩,
    ⟨some 62, none, .faddr 1 (.tmp 61)⟩,
    ⟨none, none, .st 1 (.tmp 62) (.tmp 58)⟩,
    ⟨some 63, none, .iaS 5 (.tmp 56) (.tmp 57)⟩,
    ⟨some 64, none, .faddr 2 (.tmp 63)⟩,
    ⟨none, none, .st 1 (.tmp 64) (.tmp 60)⟩] [(4, 11), (4, 12), (8, 11), (8, 12)] [6, 9])
  (.seq
  (.reg [⟨some 65, none, .ld (some 4) (.tmp 9)⟩,
    ⟨none, none, .st 4 (.tmp 6) (.tmp 65)⟩,
    ⟨some 7, none, .mv (.val (.int .i64 0))⟩] [] [6, 7])
  (.ret))))))))⟩
theorem pf33_ok : fnOk Try.prog 33 pf33 = true := by kernel_rfl

/-- hinterland/hinterlandref18.Open -/
def pf32 : PFn := ⟨54, 1, [.tmp 2, .tmp 3], .seq
  (.reg [⟨some 1, none, .boxp 24 (.tmp 0)⟩,
    ⟨some 2, none, .mv (.val (.bool false))⟩,
    ⟨some 3, none, .mv (.val (.int .i64 0))⟩] [] [1])
  (.seq
  (.seq
  (.reg [⟨some 12, none, .ld (some 2) (.tmp 1)⟩,
    ⟨some 13, none, .call 16 .pure [(.tmp 12)]⟩,
    ⟨some 4, none, .mv (.tmp 13)⟩] [] [1, 4])
  (.seq
  (.reg [⟨some 14, none, .mv (.tmp 4)⟩,
    ⟨some 15, none, .bin .neq (.tmp 14) (.val (.int .i64 0))⟩] [] [1, 4, 15])
  (.cond (.tmp 15)
  (.seq
  (.reg [⟨some 16, none, .mv (.tmp 4)⟩,
    ⟨some 2, none, .mv (.val (.bool false))⟩,
    ⟨some 3, none, .mv (.tmp 16)⟩] [] [2, 3])
  (.ret))
  (.skip))))
  (.seq
  (.reg [⟨some 17, none, .faddr 0 (.tmp 1)⟩,
    ⟨some 18, none, .ld none (.tmp 17)⟩,
    ⟨some 19, none, .len (.tmp 18)⟩,
    ⟨some 20, none, .mks 4 1 1 [(.bool false)] (.tmp 19) (.tmp 19)⟩,
    ⟨some 5, none, .mv (.tmp 20)⟩] [] [1, 5])
  (.seq
  (.seq
  (.reg [⟨some 22, none, .ld (some 2) (.tmp 1)⟩,
    ⟨some 23, none, .faddr 1 (.tmp 1)⟩,
    ⟨some 24, none, .ld none (.tmp 23)⟩,
    ⟨some 25, none, .mv (.tmp 5)⟩,
    ⟨some 26, none, .call 47 .pure [(.tmp 22), (.tmp 24), (.val (.int .i64 1)), (.tmp 25)]⟩,
    ⟨some 21, none, .mv (.tmp 26)⟩,
    ⟨some 27, none, .ext 0 (.tmp 21)⟩,
    ⟨some 28, none, .ext 1 (.tmp 21)⟩,
    ⟨some 6, none, .mv (.tmp 27)⟩,
    ⟨some 7, none, .mv (.tmp 28)⟩] [] [1, 5, 7])
  (.seq
  (.reg [⟨some 29, none, .mv (.tmp 7)⟩,
    ⟨some 30, none, .un .not (.tmp 29)⟩] [] [1, 5, 30])
  (.cond (.tmp 30)
  (.seq
  (.reg [⟨some 2, none, .mv (.val (.bool false))⟩,
    ⟨some 3, none, .mv (.val (.int .i64 0))⟩] [] [2, 3])
  (.ret))
  (.skip))))
  (.seq
  (.seq
  (.reg [⟨some 31, none, .faddr 0 (.tmp 1)⟩,
    ⟨some 32, none, .ld none (.tmp 31)⟩,
    ⟨some 33, none, .len (.tmp 32)⟩,
    ⟨some 34, none, .mv (.val (.int .i64 0))⟩] [] [1, 5, 32, 33, 34])
  (.blk 0 (.loop (.trim (.seq
  (.reg [⟨some 35, none, .bin .lss (.tmp 34) (.tmp 33)⟩] [] [1, 5, 32, 33, 34, 35])
  (.seq
  (.cond (.tmp 35)
  (.skip)
  (.ext 0))
  (.seq
  (.blk 1 (.seq
  (.reg [⟨some 36, none, .mv (.tmp 34)⟩,
    ⟨some 37, none, .iaS 2 (.tmp 32) (.tmp 34)⟩,
    ⟨some 38, none, .ld (some 2) (.tmp 37)⟩,
    ⟨some 9, none, .zer 58 (.agg [(.int .i64 0), (.list .nil 1 [])])⟩,
    ⟨some 8, none, .mv (.tmp 36)⟩,
    ⟨none, none, .st 2 (.tmp 9) (.tmp 38)⟩] [] [1, 5, 8, 9, 32, 33, 34])
  (.seq
  (.reg [⟨some 40, none, .ld (some 2) (.tmp 1)⟩,
    ⟨some 41, none, .mv (.tmp 8)⟩,
    ⟨some 42, none, .mv (.tmp 5)⟩,
    ⟨some 43, none, .call 47 .pure [(.tmp 40), (.tmp 41), (.val (.int .i64 2)), (.tmp 42)]⟩,
    ⟨some 39, none, .mv (.tmp 43)⟩,
    ⟨some 44, none, .ext 0 (.tmp 39)⟩,
    ⟨some 45, none, .ext 1 (.tmp 39)⟩,
    ⟨some 10, none, .mv (.tmp 44)⟩,
    ⟨some 11, none, .mv (.tmp 45)⟩] [] [1, 5, 9, 11, 32, 33, 34])
  (.seq
  (.reg [⟨some 46, none, .faddr 0 (.tmp 9)⟩,
    ⟨some 47, none, .ld none (.tmp 46)⟩,
    ⟨some 48, none, .bin .eql (.tmp 47) (.val (.int .i64 3))⟩,
    ⟨some 49, none, .mv (.tmp 48)⟩,
    ⟨some 50, (some (49, true)), .mv (.tmp 11)⟩,
    ⟨some 51, (some (49, true)), .un .not (.tmp 50)⟩,
    ⟨some 52, none, .pick (.tmp 49) (.tmp 51) (.val (.bool false))⟩] [] [1, 5, 32, 33, 34, 52])
  (.cond (.tmp 52)
  (.seq
  (.reg [⟨some 2, none, .mv (.val (.bool false))⟩,
    ⟨some 3, none, .mv (.val (.int .i64 0))⟩] [] [2, 3])
  (.ret))
  (.skip))))))
  (.reg [⟨some 53, none, .bin .add (.tmp 34) (.val (.int .i64 1))⟩,
    ⟨some 34, none, .mv (.tmp 53)⟩] [] [1, 5, 32, 33, 34]))))))))
  (.seq
  (.reg [⟨some 2, none, .mv (.val (.bool true))⟩,
    ⟨some 3, none, .mv (.val (.int .i64 0))⟩] [] [2, 3])
  (.ret))))))⟩
theorem pf32_ok : fnOk Try.prog 32 pf32 = true := by kernel_rfl

/-- hinterland/air.Open -/
def pf31 : PFn := ⟨48, 1, [.tmp 2, .tmp 3], .seq
  (.reg [⟨some 1, none, .boxp 24 (.tmp 0)⟩,
    ⟨some 2, none, .mv (.val (.bool false))⟩,
    ⟨some 3, none, .mv (.val (.int .i64 0))⟩] [] [1])
  (.seq
  (.seq
  (.reg [⟨some 12, none, .ld (some 2) (.tmp 1)⟩,
    ⟨some 13, none, .call 15 .pure [(.tmp 12)]⟩,
    ⟨some 4, none, .mv (.tmp 13)⟩] [] [1, 4])
  (.seq
  (.reg [⟨some 14, none, .mv (.tmp 4)⟩,
    ⟨some 15, none, .bin .neq (.tmp 14) (.val (.int .i64 0))⟩] [] [1, 4, 15])
  (.cond (.tmp 15)
  (.seq
  (.reg [⟨some 16, none, .mv (.tmp 4)⟩,
    ⟨some 2, none, .mv (.val (.bool false))⟩,
    ⟨some 3, none, .mv (.tmp 16)⟩] [] [2, 3])
  (.ret))
  (.skip))))
  (.seq
  (.reg [⟨some 5, none, .mv (.val (.clo (.func 51) [] []))⟩] [] [1, 5])
  (.seq
  (.seq
  (.reg [⟨some 18, none, .ld (some 2) (.tmp 1)⟩,
    ⟨some 19, none, .faddr 1 (.tmp 1)⟩,
    ⟨some 20, none, .ld none (.tmp 19)⟩,
    ⟨some 21, none, .mv (.tmp 5)⟩,
    ⟨some 22, none, .call 43 .pure [(.tmp 18), (.tmp 20), (.val (.int .i64 1)), (.tmp 21)]⟩,
    ⟨some 17, none, .mv (.tmp 22)⟩,
    ⟨some 23, none, .ext 0 (.tmp 17)⟩,
    ⟨some 24, none, .ext 1 (.tmp 17)⟩,
    ⟨some 6, none, .mv (.tmp 23)⟩,
    ⟨some 7, none, .mv (.tmp 24)⟩] [] [1, 5, 7])
  (.seq
  (.reg [⟨some 25, none, .mv (.tmp 7)⟩,
    ⟨some 26, none, .un .not (.tmp 25)⟩] [] [1, 5, 26])
  (.cond (.tmp 26)
  (.seq
  (.reg [⟨some 2, none, .mv (.val (.bool false))⟩,
    ⟨some 3, none, .mv (.val (.int .i64 0))⟩] [] [2, 3])
  (.ret))
  (.skip))))
  (.seq
  (.seq
  (.reg [⟨some 27, none, .faddr 0 (.tmp 1)⟩,
    ⟨some 28, none, .ld none (.tmp 27)⟩,
    ⟨some 29, none, .len (.tmp 28)⟩,
    ⟨some 30, none, .mv (.val (.int .i64 0))⟩] [] [1, 5, 28, 29, 30])
  (.blk 0 (.loop (.trim (.seq
  (.reg [⟨some 31, none, .bin .lss (.tmp 30) (.tmp 29)⟩] [] [1, 5, 28, 29, 30, 31])
  (.seq
  (.cond (.tmp 31)
  (.skip)
  (.ext 0))
  (.seq
  (.blk 1 (.seq
  (.reg [⟨some 32, none, .mv (.tmp 30)⟩,
    ⟨some 33, none, .iaS 2 (.tmp 28) (.tmp 30)⟩,
    ⟨some 34, none, .ld (some 2) (.tmp 33)⟩,
    ⟨some 9, none, .zer 58 (.agg [(.int .i64 0), (.list .nil 1 [])])⟩,
    ⟨some 8, none, .mv (.tmp 32)⟩,
    ⟨none, none, .st 2 (.tmp 9) (.tmp 34)⟩] [] [1, 5, 8, 9, 28, 29, 30])
  (.seq
  (.reg [⟨some 35, none, .faddr 0 (.tmp 9)⟩,
    ⟨some 36, none, .ld none (.tmp 35)⟩,
    ⟨some 37, none, .bin .eql (.tmp 36) (.val (.int .i64 3))⟩] [] [1, 5, 8, 28, 29, 30, 37])
  (.cond (.tmp 37)
  (.seq
  (.reg [⟨some 39, none, .ld (some 2) (.tmp 1)⟩,
    ⟨some 40, none, .mv (.tmp 8)⟩,
    ⟨some 41, none, .mv (.tmp 5)⟩,
    ⟨some 42, none, .call 43 .pure [(.tmp 39), (.tmp 40), (.val (.int .i64 2)), (.tmp 41)]⟩,
    ⟨some 38, none, .mv (.tmp 42)⟩,
    ⟨some 43, none, .ext 0 (.tmp 38)⟩,
    ⟨some 44, none, .ext 1 (.tmp 38)⟩,
    ⟨some 10, none, .mv (.tmp 43)⟩,
    ⟨some 11, none, .mv (.tmp 44)⟩] [] [1, 5, 11, 28, 29, 30])
  (.seq
  (.reg [⟨some 45, none, .mv (.tmp 11)⟩,
    ⟨some 46, none, .un .not (.tmp 45)⟩] [] [1, 5, 28, 29, 30, 46])
  (.cond (.tmp 46)
  (.seq
  (.reg [⟨some 2, none, .mv (.val (.bool false))⟩,
    ⟨some 3, none, .mv (.val (.int .i64 0))⟩] [] [2, 3])
  (.ret))
  (.skip))))
  (.skip)))))
  (.reg [⟨some 47, none, .bin .add (.tmp 30) (.val (.int .i64 1))⟩,
    ⟨some 30, none, .mv (.tmp 47)⟩] [] [1, 5, 28, 29, 30]))))))))
  (.seq
  (.reg [⟨some 2, none, .mv (.val (.bool true))⟩,
    ⟨some 3, none, .mv (.val (.int .i64 0))⟩] [] [2, 3])
  (.ret))))))⟩
theorem pf31_ok : fnOk Try.prog 31 pf31 = true := by kernel_rfl

/-- hinterland/hinterlandsame.Field -/
def pf30 : PFn := ⟨56, 2, [.tmp 4], .seq
  (.reg [⟨some 2, none, .boxp 24 (.tmp 0)⟩,
    ⟨some 3, none, .boxp 24 (.tmp 1)⟩,
    ⟨some 4, none, .mv (.val (.bool false))⟩] [] [2, 3])
  (.seq
  (.seq
  (.reg [⟨some 6, none, .faddr 1 (.tmp 2)⟩,
    ⟨some 7, none, .ld none (.tmp 6)⟩,
    ⟨some 8, none, .faddr 1 (.tmp 3)⟩,
    ⟨some 9, none, .ld none (.tmp 8)⟩,
    ⟨some 10, none, .bin .neq (.tmp 7) (.tmp 9)⟩,
    ⟨some 11, none, .mv (.tmp 10)⟩,
    ⟨some 12, (some (11, false)), .faddr 0 (.tmp 2)⟩,
    ⟨some 13, (some (11, false)), .ld none (.tmp 12)⟩,
    ⟨some 14, (some (11, false)), .len (.tmp 13)⟩,
    ⟨some 15, (some (11, false)), .faddr 0 (.tmp 3)⟩,
    ⟨some 16, (some (11, false)), .ld none (.tmp 15)⟩,
    ⟨some 17, (some (11, false)), .len (.tmp 16)⟩,
    ⟨some 18, (some (11, false)), .bin .neq (.tmp 14) (.tmp 17)⟩,
    ⟨some 19, none, .pick (.tmp 11) (.val (.bool true)) (.tmp 18)⟩] [] [2, 3, 19])
  (.cond (.tmp 19)
  (.seq
  (.reg [⟨some 4, none, .mv (.val (.bool false))⟩] [] [4])
  (.ret))
  (.skip)))
  (.seq
  (.seq
  (.reg [⟨some 20, none, .faddr 0 (.tmp 2)⟩,
    ⟨some 21, none, .ld none (.tmp 20)⟩,
    ⟨some 22, none, .len (.tmp 21)⟩,
    ⟨some 23, none, .mv (.val (.int .i64 0))⟩] [] [2, 3, 22, 23])
  (.blk 0 (.loop (.seq
  (.reg [⟨some 24, none, .bin .lss (.tmp 23) (.tmp 22)⟩] [] [2, 3, 22, 23, 24])
  (.seq
  (.cond (.tmp 24)
  (.skip)
  (.ext 0))
  (.seq
  (.blk 1 (.seq
  (.reg [⟨some 25, none, .mv (.tmp 23)⟩,
    ⟨some 5, none, .mv (.tmp 25)⟩] [] [2, 3, 5, 22, 23])
  (.seq
  (.reg [⟨some 26, none, .faddr 0 (.tmp 2)⟩,
    ⟨some 27, none, .ld none (.tmp 26)⟩,
    ⟨some 28, none, .mv (.tmp 5)⟩,
    ⟨some 29, none, .iaS 2 (.tmp 27) (.tmp 28)⟩,
    ⟨some 30, none, .faddr 0 (.tmp 29)⟩,
    ⟨some 31, none, .ld none (.tmp 30)⟩,
    ⟨some 32, none, .faddr 0 (.tmp 3)⟩,
    ⟨some 33, none, .ld none (.tmp 32)⟩,
    ⟨some 34, none, .mv (.tmp 5)⟩,
    ⟨some 35, none, .iaS 2 (.tmp 33) (.tmp 34)⟩,
    ⟨some 36, none, .faddr 0 (.tmp 35)⟩,
    ⟨some 37, none, .ld none (.tmp 36)⟩,
    ⟨some 38, none, .bin .neq (.tmp 31) (.tmp 37)⟩,
    ⟨some 39, none, .mv (.tmp 38)⟩,
    ⟨some 40, (some (39, false)), .faddr 0 (.tmp 2)⟩,
    ⟨some 41, (some (39, false)), .ld none (.tmp 40)⟩,
    ⟨some 42, (some (39, false)), .mv (.tmp 5)⟩,
    ⟨some 43, (some (39, false)), .iaS 2 (.tmp 41) (.tmp 42)⟩,
    ⟨some 44, (some (39, false)), .faddr 1 (.tmp 43)⟩,
    ⟨some 45, (some (39, false)), .ld none (.tmp 44)⟩,
    ⟨some 46, (some (39, false)), .faddr 0 (.tmp 3)⟩,
    ⟨some 47, (some (39, false)), .ld none (.tmp 46)⟩,
    ⟨some 48, (some (39, false)), .mv (.tmp 5)⟩,
    ⟨some 49, (some (39, false)), .iaS 2 (.tmp 47) (.tmp 48)⟩,
    ⟨some 50, (some (39, false)), .faddr 1 (.tmp 49)⟩,
    ⟨some 51, (some (39, false)), .ld none (.tmp 50)⟩,
    ⟨some 52, (some (39, false)), .call 21 .pure [(.tmp 45), (.tmp 51)]⟩,
    ⟨some 53, (some (39, false)), .un .not (.tmp 52)⟩,
    ⟨some 54, none, .pick (.tmp 39) (.val (.bool true)) (.tmp 53)⟩] [] [2, 3, 22, 23, 54])
  (.cond (.tmp 54)
  (.seq
  (.reg [⟨some 4, none, .mv (.val (.bool false))⟩] [] [4])
  (.ret))
  (.skip)))))
  (.reg [⟨some 55, none, .bin .add (.tmp 23) (.val (.int .i64 1))⟩,
    ⟨some 23, none, .mv (.tmp 55)⟩] [] [2, 3, 22, 23])))))))
  (.seq
  (.reg [⟨some 4, none, .mv (.val (.bool true))⟩] [] [4])
  (.ret))))⟩
theorem pf30_ok : fnOk Try.prog 30 pf30 = true := by kernel_rfl

/-- hinterland/hinterlandref18.Plan -/
def pf29 : PFn := ⟨50, 1, [.cell 2 (some 2), .tmp 3], .seq
  (.reg [⟨some 2, none, .zer 24 (.agg [(.list .nil 2 []), (.int .i64 0)])⟩,
    ⟨some 3, none, .mv (.val (.int .i64 0))⟩] [] [0, 2])
  (.seq
  (.seq
  (.reg [⟨some 4, none, .mv (.tmp 0)⟩] [] [2, 4])
  (.blk 0 (.seq
  (.reg [⟨some 6, none, .bin .eql (.tmp 4) (.val (.int .i64 0))⟩,
    ⟨some 5, none, .mv (.tmp 6)⟩] [] [2, 4, 5])
  (.cond (.tmp 5)
  (.seq
  (.reg [⟨some 7, none, .bsl 1 1 [(.int .i64 0)] [(0, 1, (.val (.int .i64 1)))]⟩,
    ⟨some 8, none, .bld [(.int .i64 0), (.list .nil 1 [])] [(0, 1, (.val (.int .i64 0))), (1, 1, (.tmp 7))]⟩,
    ⟨some 9, none, .bsl 2 1 [(.int .i64 0)] [(0, 1, (.val (.int .i64 0))), (1, 1, (.val (.int .i64 2)))]⟩,
    ⟨some 10, none, .bld [(.int .i64 0), (.list .nil 1 [])] [(0, 1, (.val (.int .i64 1))), (1, 1, (.tmp 9))]⟩,
    ⟨some 11, none, .bsl 1 1 [(.int .i64 0)] [(0, 1, (.val (.int .i64 1)))]⟩,
    ⟨some 12, none, .bld [(.int .i64 0), (.list .nil 1 [])] [(0, 1, (.val (.int .i64 3))), (1, 1, (.tmp 11))]⟩,
    ⟨some 13, none, .bsl 3 2 [(.int .i64 0), (.list .nil 1 [])] [(0, 2, (.tmp 8)), (2, 2, (.tmp 10)), (4, 2, (.tmp 12))]⟩,
    ⟨some 14, none, .bld [(.list .nil 2 []), (.int .i64 0)] [(0, 1, (.tmp 13))]⟩,
    ⟨none, none, .st 2 (.tmp 2) (.tmp 14)⟩,
    ⟨some 3, none, .mv (.val (.int .i64 0))⟩] [] [2, 3])
  (.ret))
  (.seq
  (.reg [⟨some 16, none, .bin .eql (.tmp 4) (.val (.int .i64 1))⟩,
    ⟨some 15, none, .mv (.tmp 16)⟩] [] [2, 4, 15])
  (.cond (.tmp 15)
  (.seq
  (.reg [⟨some 17, none, .bsl 1 1 [(.int .i64 0)] [(0, 1, (.val (.int .i64 1)))]⟩,
    ⟨some 18, none, .bld [(.int .i64 0), (.list .nil 1 [])] [(0, 1, (.val (.int .i64 0))), (1, 1, (.tmp 17))]⟩,
    ⟨some 19, none, .bsl 2 1 [(.int .i64 0)] [(0, 1, (.val (.int .i64 0))), (1, 1, (.val (.int .i64 2)))]⟩,
    ⟨some 20, none, .bld [(.int .i64 0), (.list .nil 1 [])] [(0, 1, (.val (.int .i64 1))), (1, 1, (.tmp 19))]⟩,
    ⟨some 21, none, .bsl 3 1 [(.int .i64 0)] [(0, 1, (.val (.int .i64 1))), (1, 1, (.val (.int .i64 3))), (2, 1, (.val (.int .i64 4)))]⟩,
    ⟨some 22, none, .bld [(.int .i64 0), (.list .nil 1 [])] [(0, 1, (.val (.int .i64 2))), (1, 1, (.tmp 21))]⟩,
    ⟨some 23, none, .bsl 1 1 [(.int .i64 0)] [(0, 1, (.val (.int .i64 2)))]⟩,
    ⟨some 24, none, .bld [(.int .i64 0), (.list .nil 1 [])] [(0, 1, (.val (.int .i64 3))), (1, 1, (.tmp 23))]⟩,
    ⟨some 25, none, .bsl 1 1 [(.int .i64 0)] [(0, 1, (.val (.int .i64 2)))]⟩,
    ⟨some 26, none, .bld [(.int .i64 0), (.list .nil 1 [])] [(0, 1, (.val (.int .i64 3))), (1, 1, (.tmp 25))]⟩,
    ⟨some 27, none, .bsl 5 2 [(.int .i64 0), (.list .nil 1 [])] [(0, 2, (.tmp 18)), (2, 2, (.tmp 20)), (4, 2, (.tmp 22)), (6, 2, (.tmp 24)), (8, 2, (.tmp 26))]⟩,
    ⟨some 28, none, .bld [(.list .nil 2 []), (.int .i64 0)] [(0, 1, (.tmp 27))]⟩,
    ⟨none, none, .st 2 (.tmp 2) (.tmp 28)⟩,
    ⟨some 3, none, .mv (.val (.int .i64 0))⟩] [] [2, 3])
  (.ret))
  (.seq
  (.reg [⟨some 30, none, .bin .eql (.tmp 4) (.val (.int .i64 2))⟩,
    ⟨some 29, none, .mv (.tmp 30)⟩] [] [2, 29])
  (.cond (.tmp 29)
  (.seq
  (.reg [⟨some 31, none, .bsl 1 1 [(.int .i64 0)] [(0, 1, (.val (.int .i64 1)))]⟩,
    ⟨some 32, none, .bld [(.int .i64 0), (.list .nil 1 [])] [(0, 1, (.val (.int .i64 0))), (1, 1, (.tmp 31))]⟩,
    ⟨some 33, none, .bsl 1 1 [(.int .i64 0)] [(0, 1, (.val (.int .i64 3)))]⟩,
    ⟨some 34, none, .bld [(.int .i64 0), (.list .nil 1 [])] [(0, 1, (.val (.int .i64 1))), (1, 1, (.tmp 33))]⟩,
    ⟨some 35, none, .bsl 1 1 [(.int .i64 0)] [(0, 1, (.val (.int .i64 0)))]⟩,
    ⟨some 36, none, .bld [(.int .i64 0), (.list .nil 1 [])] [(0, 1, (.val (.int .i64 1))), (1, 1, (.tmp 35))]⟩,
    ⟨some 37, none, .bsl 1 1 [(.int .i64 0)] [(0, 1, (.val (.int .i64 4)))]⟩,
    ⟨some 38, none, .bld [(.int .i64 0), (.list .nil 1 [])] [(0, 1, (.val (.int .i64 2))), (1, 1, (.tmp 37))]⟩,
    ⟨some 39, none, .bsl 4 1 [(.int .i64 0)] [(0, 1, (.val (.int .i64 2))), (1, 1, (.val (.int .i64 5))), (2, 1, (.val (.int .i64 6))), (3, 1, (.val (.int .i64 7)))]⟩,
    ⟨some 40, none, .bld [(.int .i64 0), (.list .nil 1 [])] [(0, 1, (.val (.int .i64 2))), (1, 1, (.tmp 39))]⟩,
    ⟨some 41, none, .bsl 1 1 [(.int .i64 0)] [(0, 1, (.val (.int .i64 4)))]⟩,
    ⟨some 42, none, .bld [(.int .i64 0), (.list .nil 1 [])] [(0, 1, (.val (.int .i64 3))), (1, 1, (.tmp 41))]⟩,
    ⟨some 43, none, .bsl 1 1 [(.int .i64 0)] [(0, 1, (.val (.int .i64 4)))]⟩,
    ⟨some 44, none, .bld [(.int .i64 0), (.list .nil 1 [])] [(0, 1, (.val (.int .i64 3))), (1, 1, (.tmp 43))]⟩,
    ⟨some 45, none, .bsl 1 1 [(.int .i64 0)] [(0, 1, (.val (.int .i64 4)))]⟩,
    ⟨some 46, none, .bld [(.int .i64 0), (.list .nil 1 [])] [(0, 1, (.val (.int .i64 3))), (1, 1, (.tmp 45))]⟩,
    ⟨some 47, none, .bsl 8 2 [(.int .i64 0), (.list .nil 1 [])] [(0, 2, (.tmp 32)), (2, 2, (.tmp 34)), (4, 2, (.tmp 36)), (6, 2, (.tmp 38)), (8, 2, (.tmp 40)), (10, 2, (.tmp 42)), (12, 2, (.tmp 44)), (14, 2, (.tmp 46))]⟩,
    ⟨some 48, none, .bld [(.list .nil 2 []), (.int .i64 0)] [(0, 1, (.tmp 47))]⟩,
    ⟨none, none, .st 2 (.tmp 2) (.tmp 48)⟩,
    ⟨some 3, none, .mv (.val (.int .i64 0))⟩] [] [2, 3])
  (.ret))
  (.skip)))))))))
  (.seq
  (.reg [⟨some 49, none, .bld [(.list .nil 2 []), (.int .i64 0)] []⟩,
    ⟨none, none, .st 2 (.tmp 2) (.tmp 49)⟩,
    ⟨some 3, none, .mv (.val (.int .i64 1))⟩] [] [2, 3])
  (.ret)))⟩
theorem pf29_ok : fnOk Try.prog 29 pf29 = true := by kernel_rfl

/-- hinterland/air.Plan -/
def pf28 : PFn := ⟨50, 1, [.cell 2 (some 2), .tmp 3], .seq
  (.reg [⟨some 2, none, .zer 24 (.agg [(.list .nil 2 []), (.int .i64 0)])⟩,
    ⟨some 3, none, .mv (.val (.int .i64 0))⟩] [] [0, 2])
  (.seq
  (.seq
  (.reg [⟨some 4, none, .mv (.tmp 0)⟩] [] [2, 4])
  (.blk 0 (.seq
  (.reg [⟨some 6, none, .bin .eql (.tmp 4) (.val (.int .i64 0))⟩,
    ⟨some 5, none, .mv (.tmp 6)⟩] [] [2, 4, 5])
  (.cond (.tmp 5)
  (.seq
  (.reg [⟨some 7, none, .bsl 1 1 [(.int .i64 0)] [(0, 1, (.val (.int .i64 1)))]⟩,
    ⟨some 8, none, .bld [(.int .i64 0), (.list .nil 1 [])] [(0, 1, (.val (.int .i64 0))), (1, 1, (.tmp 7))]⟩,
    ⟨some 9, none, .bsl 2 1 [(.int .i64 0)] [(0, 1, (.val (.int .i64 0))), (1, 1, (.val (.int .i64 2)))]⟩,
    ⟨some 10, none, .bld [(.int .i64 0), (.list .nil 1 [])] [(0, 1, (.val (.int .i64 1))), (1, 1, (.tmp 9))]⟩,
    ⟨some 11, none, .bsl 1 1 [(.int .i64 0)] [(0, 1, (.val (.int .i64 1)))]⟩,
    ⟨some 12, none, .bld [(.int .i64 0), (.list .nil 1 [])] [(0, 1, (.val (.int .i64 3))), (1, 1, (.tmp 11))]⟩,
    ⟨some 13, none, .bsl 3 2 [(.int .i64 0), (.list .nil 1 [])] [(0, 2, (.tmp 8)), (2, 2, (.tmp 10)), (4, 2, (.tmp 12))]⟩,
    ⟨some 14, none, .bld [(.list .nil 2 []), (.int .i64 0)] [(0, 1, (.tmp 13))]⟩,
    ⟨none, none, .st 2 (.tmp 2) (.tmp 14)⟩,
    ⟨some 3, none, .mv (.val (.int .i64 0))⟩] [] [2, 3])
  (.ret))
  (.seq
  (.reg [⟨some 16, none, .bin .eql (.tmp 4) (.val (.int .i64 1))⟩,
    ⟨some 15, none, .mv (.tmp 16)⟩] [] [2, 4, 15])
  (.cond (.tmp 15)
  (.seq
  (.reg [⟨some 17, none, .bsl 1 1 [(.int .i64 0)] [(0, 1, (.val (.int .i64 1)))]⟩,
    ⟨some 18, none, .bld [(.int .i64 0), (.list .nil 1 [])] [(0, 1, (.val (.int .i64 0))), (1, 1, (.tmp 17))]⟩,
    ⟨some 19, none, .bsl 2 1 [(.int .i64 0)] [(0, 1, (.val (.int .i64 0))), (1, 1, (.val (.int .i64 2)))]⟩,
    ⟨some 20, none, .bld [(.int .i64 0), (.list .nil 1 [])] [(0, 1, (.val (.int .i64 1))), (1, 1, (.tmp 19))]⟩,
    ⟨some 21, none, .bsl 3 1 [(.int .i64 0)] [(0, 1, (.val (.int .i64 1))), (1, 1, (.val (.int .i64 3))), (2, 1, (.val (.int .i64 4)))]⟩,
    ⟨some 22, none, .bld [(.int .i64 0), (.list .nil 1 [])] [(0, 1, (.val (.int .i64 2))), (1, 1, (.tmp 21))]⟩,
    ⟨some 23, none, .bsl 1 1 [(.int .i64 0)] [(0, 1, (.val (.int .i64 2)))]⟩,
    ⟨some 24, none, .bld [(.int .i64 0), (.list .nil 1 [])] [(0, 1, (.val (.int .i64 3))), (1, 1, (.tmp 23))]⟩,
    ⟨some 25, none, .bsl 1 1 [(.int .i64 0)] [(0, 1, (.val (.int .i64 2)))]⟩,
    ⟨some 26, none, .bld [(.int .i64 0), (.list .nil 1 [])] [(0, 1, (.val (.int .i64 3))), (1, 1, (.tmp 25))]⟩,
    ⟨some 27, none, .bsl 5 2 [(.int .i64 0), (.list .nil 1 [])] [(0, 2, (.tmp 18)), (2, 2, (.tmp 20)), (4, 2, (.tmp 22)), (6, 2, (.tmp 24)), (8, 2, (.tmp 26))]⟩,
    ⟨some 28, none, .bld [(.list .nil 2 []), (.int .i64 0)] [(0, 1, (.tmp 27))]⟩,
    ⟨none, none, .st 2 (.tmp 2) (.tmp 28)⟩,
    ⟨some 3, none, .mv (.val (.int .i64 0))⟩] [] [2, 3])
  (.ret))
  (.seq
  (.reg [⟨some 30, none, .bin .eql (.tmp 4) (.val (.int .i64 2))⟩,
    ⟨some 29, none, .mv (.tmp 30)⟩] [] [2, 29])
  (.cond (.tmp 29)
  (.seq
  (.reg [⟨some 31, none, .bsl 1 1 [(.int .i64 0)] [(0, 1, (.val (.int .i64 1)))]⟩,
    ⟨some 32, none, .bld [(.int .i64 0), (.list .nil 1 [])] [(0, 1, (.val (.int .i64 0))), (1, 1, (.tmp 31))]⟩,
    ⟨some 33, none, .bsl 1 1 [(.int .i64 0)] [(0, 1, (.val (.int .i64 3)))]⟩,
    ⟨some 34, none, .bld [(.int .i64 0), (.list .nil 1 [])] [(0, 1, (.val (.int .i64 1))), (1, 1, (.tmp 33))]⟩,
    ⟨some 35, none, .bsl 1 1 [(.int .i64 0)] [(0, 1, (.val (.int .i64 0)))]⟩,
    ⟨some 36, none, .bld [(.int .i64 0), (.list .nil 1 [])] [(0, 1, (.val (.int .i64 1))), (1, 1, (.tmp 35))]⟩,
    ⟨some 37, none, .bsl 1 1 [(.int .i64 0)] [(0, 1, (.val (.int .i64 4)))]⟩,
    ⟨some 38, none, .bld [(.int .i64 0), (.list .nil 1 [])] [(0, 1, (.val (.int .i64 2))), (1, 1, (.tmp 37))]⟩,
    ⟨some 39, none, .bsl 4 1 [(.int .i64 0)] [(0, 1, (.val (.int .i64 2))), (1, 1, (.val (.int .i64 5))), (2, 1, (.val (.int .i64 6))), (3, 1, (.val (.int .i64 7)))]⟩,
    ⟨some 40, none, .bld [(.int .i64 0), (.list .nil 1 [])] [(0, 1, (.val (.int .i64 2))), (1, 1, (.tmp 39))]⟩,
    ⟨some 41, none, .bsl 1 1 [(.int .i64 0)] [(0, 1, (.val (.int .i64 4)))]⟩,
    ⟨some 42, none, .bld [(.int .i64 0), (.list .nil 1 [])] [(0, 1, (.val (.int .i64 3))), (1, 1, (.tmp 41))]⟩,
    ⟨some 43, none, .bsl 1 1 [(.int .i64 0)] [(0, 1, (.val (.int .i64 4)))]⟩,
    ⟨some 44, none, .bld [(.int .i64 0), (.list .nil 1 [])] [(0, 1, (.val (.int .i64 3))), (1, 1, (.tmp 43))]⟩,
    ⟨some 45, none, .bsl 1 1 [(.int .i64 0)] [(0, 1, (.val (.int .i64 4)))]⟩,
    ⟨some 46, none, .bld [(.int .i64 0), (.list .nil 1 [])] [(0, 1, (.val (.int .i64 3))), (1, 1, (.tmp 45))]⟩,
    ⟨some 47, none, .bsl 8 2 [(.int .i64 0), (.list .nil 1 [])] [(0, 2, (.tmp 32)), (2, 2, (.tmp 34)), (4, 2, (.tmp 36)), (6, 2, (.tmp 38)), (8, 2, (.tmp 40)), (10, 2, (.tmp 42)), (12, 2, (.tmp 44)), (14, 2, (.tmp 46))]⟩,
    ⟨some 48, none, .bld [(.list .nil 2 []), (.int .i64 0)] [(0, 1, (.tmp 47))]⟩,
    ⟨none, none, .st 2 (.tmp 2) (.tmp 48)⟩,
    ⟨some 3, none, .mv (.val (.int .i64 0))⟩] [] [2, 3])
  (.ret))
  (.skip)))))))))
  (.seq
  (.reg [⟨some 49, none, .bld [(.list .nil 2 []), (.int .i64 0)] []⟩,
    ⟨none, none, .st 2 (.tmp 2) (.tmp 49)⟩,
    ⟨some 3, none, .mv (.val (.int .i64 1))⟩] [] [2, 3])
  (.ret)))⟩
theorem pf28_ok : fnOk Try.prog 28 pf28 = true := by kernel_rfl

/-- hinterland/hinterlandlaw18.leads -/
def pf27 : PFn := ⟨99, 4, [.tmp 8], .seq
  (.reg [⟨some 4, none, .boxp 24 (.tmp 0)⟩,
    ⟨some 8, none, .mv (.val (.bool false))⟩] [] [1, 2, 3, 4])
  (.seq
  (.seq
  (.reg [⟨some 12, none, .mv (.tmp 3)⟩,
    ⟨some 13, none, .len (.tmp 12)⟩,
    ⟨some 14, none, .bin .eql (.tmp 13) (.val (.int .i64 0))⟩,
    ⟨some 15, none, .mv (.tmp 14)⟩,
    ⟨some 16, (some (15, false)), .mv (.tmp 3)⟩,
    ⟨some 17, (some (15, false)), .iaS 1 (.tmp 16) (.val (.int .i64 0))⟩,
    ⟨some 18, (some (15, false)), .ld none (.tmp 17)⟩,
    ⟨some 19, (some (15, false)), .mv (.tmp 1)⟩,
    ⟨some 20, (some (15, false)), .bin .neq (.tmp 18) (.tmp 19)⟩,
    ⟨some 21, none, .pick (.tmp 15) (.val (.bool true)) (.tmp 20)⟩] [] [2, 3, 4, 21])
  (.cond (.tmp 21)
  (.seq
  (.reg [⟨some 8, none, .mv (.val (.bool false))⟩] [] [8])
  (.ret))
  (.skip)))
  (.seq
  (.seq
  (.reg [⟨some 22, none, .mv (.tmp 3)⟩,
    ⟨some 23, none, .len (.tmp 22)⟩,
    ⟨some 24, none, .mv (.val (.int .i64 0))⟩] [] [2, 3, 4, 22, 23, 24])
  (.blk 0 (.loop (.seq
  (.reg [⟨some 25, none, .bin .lss (.tmp 24) (.tmp 23)⟩] [] [2, 3, 4, 22, 23, 24, 25])
  (.seq
  (.cond (.tmp 25)
  (.skip)
  (.ext 0))
  (.seq
  (.blk 1 (.seq
  (.reg [⟨some 26, none, .mv (.tmp 24)⟩,
    ⟨some 27, none, .iaS 1 (.tmp 22) (.tmp 24)⟩,
    ⟨some 28, none, .ld none (.tmp 27)⟩,
    ⟨some 9, none, .mv (.tmp 26)⟩,
    ⟨some 10, none, .mv (.tmp 28)⟩] [] [2, 3, 4, 9, 10, 22, 23, 24])
  (.seq
  (.reg [⟨some 29, none, .mv (.tmp 10)⟩,
    ⟨some 30, none, .bin .lss (.tmp 29) (.val (.int .i64 0))⟩,
    ⟨some 31, none, .mv (.tmp 30)⟩,
    ⟨some 32, (some (31, false)), .mv (.tmp 10)⟩,
    ⟨some 33, (some (31, false)), .faddr 0 (.tmp 4)⟩,
    ⟨some 34, (some (31, false)), .ld none (.tmp 33)⟩,
    ⟨some 35, (some (31, false)), .len (.tmp 34)⟩,
    ⟨some 36, (some (31, false)), .bin .geq (.tmp 32) (.tmp 35)⟩,
    ⟨some 37, none, .pick (.tmp 31) (.val (.bool true)) (.tmp 36)⟩,
    ⟨some 38, none, .mv (.tmp 37)⟩,
    ⟨some 39, (some (38, false)), .mv (.tmp 9)⟩,
    ⟨some 40, (some (38, false)), .bin .gtr (.tmp 39) (.val (.int .i64 0))⟩,
    ⟨some 41, (some (38, false)), .mv (.tmp 40)⟩,
    ⟨some 42, (some (41, true)), .ld (some 2) (.tmp 4)⟩,
    ⟨some 43, (some (41, true)), .mv (.tmp 3)⟩,
    ⟨some 44, (some (41, true)), .mv (.tmp 9)⟩,
    ⟨some 45, (some (41, true)), .bin .sub (.tmp 44) (.val (.int .i64 1))⟩,
    ⟨some 46, (some (41, true)), .iaS 1 (.tmp 43) (.tmp 45)⟩,
    ⟨some 47, (some (41, true)), .ld none (.tmp 46)⟩,
    ⟨some 48, (some (41, true)), .mv (.tmp 10)⟩,
    ⟨some 49, (some (41, true)), .call 34 .pure [(.tmp 42), (.tmp 47), (.tmp 48)]⟩,
    ⟨some 50, (some (41, true)), .un .not (.tmp 49)⟩,
    ⟨some 51, (some (38, false)), .pick (.tmp 41) (.tmp 50) (.val (.bool false))⟩,
    ⟨some 52, none, .pick (.tmp 38) (.val (.bool true)) (.tmp 51)⟩,
    ⟨some 53, none, .mv (.tmp 52)⟩,
    ⟨some 54, (some (53, false)), .mv (.tmp 9)⟩,
    ⟨some 55, (some (53, false)), .bin .gtr (.tmp 54) (.val (.int .i64 0))⟩,
    ⟨some 56, (some (53, false)), .mv (.tmp 55)⟩,
    ⟨some 57, (some (56, true)), .mv (.tmp 9)⟩,
    ⟨some 58, (some (56, true)), .mv (.tmp 3)⟩,
    ⟨some 59, (some (56, true)), .len (.tmp 58)⟩,
    ⟨some 60, (some (56, true)), .bin .sub (.tmp 59) (.val (.int .i64 1))⟩,
    ⟨some 61, (some (56, true)), .bin .lss (.tmp 57) (.tmp 60)⟩,
    ⟨some 62, (some (53, false)), .pick (.tmp 56) (.tmp 61) (.val (.bool false))⟩,
    ⟨some 63, (some (53, false)), .mv (.tmp 62)⟩,
    ⟨some 64, (some (63, true)), .faddr 0 (.tmp 4)⟩,
    ⟨some 65, (some (63, true)), .ld none (.tmp 64)⟩,
    ⟨some 66, (some (63, true)), .mv (.tmp 10)⟩,
    ⟨some 67, (some (63, true)), .iaS 2 (.tmp 65) (.tmp 66)⟩,
    ⟨some 68, (some (63, true)), .faddr 0 (.tmp 67)⟩,
    ⟨some 69, (some (63, true)), .ld none (.tmp 68)⟩,
    ⟨some 70, (some (63, true)), .bin .eql (.tmp 69) (.val (.int .i64 0))⟩,
    ⟨some 71, (some (53, false)), .pick (.tmp 63) (.tmp 70) (.val (.bool false))⟩,
    ⟨some 72, none, .pick (.tmp 53) (.val (.bool true)) (.tmp 71)⟩] [] [2, 3, 4, 22, 23, 24, 72])
  (.cond (.tmp 72)
  (.seq
  (.reg [⟨some 8, none, .mv (.val (.bool false))⟩] [] [8])
  (.ret))
  (.skip)))))
  (.reg [⟨some 73, none, .bin .add (.tmp 24) (.val (.int .i64 1))⟩,
    ⟨some 24, none, .mv (.tmp 73)⟩] [] [2, 3, 4, 22, 23, 24])))))))
  (.seq
  (.reg [⟨some 74, none, .faddr 0 (.tmp 4)⟩,
    ⟨some 75, none, .ld none (.tmp 74)⟩,
    ⟨some 76, none, .mv (.tmp 3)⟩,
    ⟨some 77, none, .mv (.tmp 3)⟩,
    ⟨some 78, none, .len (.tmp 77)⟩,
    ⟨some 79, none, .bin .sub (.tmp 78) (.val (.int .i64 1))⟩,
    ⟨some 80, none, .iaS 1 (.tmp 76) (.tmp 79)⟩,
    ⟨some 81, none, .ld none (.tmp 80)⟩,
    ⟨some 82, none, .iaS 2 (.tmp 75) (.tmp 81)⟩,
    ⟨some 83, none, .faddr 0 (.tmp 82)⟩,
    ⟨some 84, none, .ld none (.tmp 83)⟩,
    ⟨some 11, none, .mv (.tmp 84)⟩] [] [2, 11])
  (.seq
  (.reg [⟨some 85, none, .mv (.tmp 2)⟩,
    ⟨some 86, none, .bin .eql (.tmp 85) (.val (.int .i64 1))⟩,
    ⟨some 87, none, .mv (.tmp 86)⟩,
    ⟨some 88, (some (87, true)), .mv (.tmp 11)⟩,
    ⟨some 89, (some (87, true)), .bin .eql (.tmp 88) (.val (.int .i64 3))⟩,
    ⟨some 90, none, .pick (.tmp 87) (.tmp 89) (.val (.bool false))⟩,
    ⟨some 91, none, .mv (.tmp 90)⟩,
    ⟨some 92, (some (91, false)), .mv (.tmp 2)⟩,
    ⟨some 93, (some (91, false)), .bin .eql (.tmp 92) (.val (.int .i64 2))⟩,
    ⟨some 94, (some (91, false)), .mv (.tmp 93)⟩,
    ⟨some 95, (some (94, true)), .mv (.tmp 11)⟩,
    ⟨some 96, (some (94, true)), .bin .eql (.tmp 95) (.val (.int .i64 0))⟩,
    ⟨some 97, (some (91, false)), .pick (.tmp 94) (.tmp 96) (.val (.bool false))⟩,
    ⟨some 98, none, .pick (.tmp 91) (.val (.bool true)) (.tmp 97)⟩,
    ⟨some 8, none, .mv (.tmp 98)⟩] [] [8])
  (.ret)))))⟩
theorem pf27_ok : fnOk Try.prog 27 pf27 = true := by kernel_rfl

/-- hinterland/hinterlandref18.Way -/
def pf26 : PFn := ⟨40, 3, [.tmp 6, .tmp 7, .tmp 8], .seq
  (.reg [⟨some 3, none, .boxp 24 (.tmp 0)⟩,
    ⟨some 6, none, .mv (.val (.list .nil 1 []))⟩,
    ⟨some 7, none, .mv (.val (.bool false))⟩,
    ⟨some 8, none, .mv (.val (.int .i64 0))⟩] [] [1, 2, 3])
  (.seq
  (.seq
  (.reg [⟨some 12, none, .ld (some 2) (.tmp 3)⟩,
    ⟨some 13, none, .call 16 .pure [(.tmp 12)]⟩,
    ⟨some 9, none, .mv (.tmp 13)⟩] [] [1, 2, 3, 9])
  (.seq
  (.reg [⟨some 14, none, .mv (.tmp 9)⟩,
    ⟨some 15, none, .bin .neq (.tmp 14) (.val (.int .i64 0))⟩] [] [1, 2, 3, 9, 15])
  (.cond (.tmp 15)
  (.seq
  (.reg [⟨some 16, none, .mv (.tmp 9)⟩,
    ⟨some 6, none, .mv (.val (.list .nil 1 []))⟩,
    ⟨some 7, none, .mv (.val (.bool false))⟩,
    ⟨some 8, none, .mv (.tmp 16)⟩] [] [6, 7, 8])
  (.ret))
  (.skip))))
  (.seq
  (.seq
  (.reg [⟨some 17, none, .mv (.tmp 1)⟩,
    ⟨some 18, none, .faddr 0 (.tmp 3)⟩,
    ⟨some 19, none, .ld none (.tmp 18)⟩,
    ⟨some 20, none, .len (.tmp 19)⟩,
    ⟨some 21, none, .bin .sub (.tmp 20) (.val (.int .i64 1))⟩,
    ⟨some 22, none, .call 35 .pure [(.tmp 17), (.val (.int .i64 0)), (.tmp 21)]⟩,
    ⟨some 23, none, .un .not (.tmp 22)⟩] [] [1, 2, 3, 23])
  (.cond (.tmp 23)
  (.seq
  (.reg [⟨some 6, none, .mv (.val (.list .nil 1 []))⟩,
    ⟨some 7, none, .mv (.val (.bool false))⟩,
    ⟨some 8, none, .mv (.val (.int .i64 2))⟩] [] [6, 7, 8])
  (.ret))
  (.skip)))
  (.seq
  (.seq
  (.reg [⟨some 24, none, .mv (.tmp 2)⟩,
    ⟨some 25, none, .call 35 .pure [(.tmp 24), (.val (.int .i64 0)), (.val (.int .i64 2))]⟩,
    ⟨some 26, none, .un .not (.tmp 25)⟩] [] [1, 2, 3, 26])
  (.cond (.tmp 26)
  (.seq
  (.reg [⟨some 6, none, .mv (.val (.list .nil 1 []))⟩,
    ⟨some 7, none, .mv (.val (.bool false))⟩,
    ⟨some 8, none, .mv (.val (.int .i64 1))⟩] [] [6, 7, 8])
  (.ret))
  (.skip)))
  (.seq
  (.reg [⟨some 28, none, .ld (some 2) (.tmp 3)⟩,
    ⟨some 29, none, .mv (.tmp 1)⟩,
    ⟨some 30, none, .mv (.tmp 2)⟩,
    ⟨some 31, none, .faddr 0 (.tmp 3)⟩,
    ⟨some 32, none, .ld none (.tmp 31)⟩,
    ⟨some 33, none, .len (.tmp 32)⟩,
    ⟨some 34, none, .mks 4 1 1 [(.bool false)] (.tmp 33) (.tmp 33)⟩,
    ⟨some 35, none, .call 47 .pure [(.tmp 28), (.tmp 29), (.tmp 30), (.tmp 34)]⟩,
    ⟨some 27, none, .mv (.tmp 35)⟩,
    ⟨some 36, none, .ext 0 (.tmp 27)⟩,
    ⟨some 37, none, .ext 1 (.tmp 27)⟩,
    ⟨some 10, none, .mv (.tmp 36)⟩,
    ⟨some 11, none, .mv (.tmp 37)⟩] [(0, 6), (0, 7)] [10, 11])
  (.seq
  (.reg [⟨some 38, none, .mv (.tmp 10)⟩,
    ⟨some 39, none, .mv (.tmp 11)⟩,
    ⟨some 6, none, .mv (.tmp 38)⟩,
    ⟨some 7, none, .mv (.tmp 39)⟩,
    ⟨some 8, none, .mv (.val (.int .i64 0))⟩] [] [6, 7, 8])
  (.ret))))))⟩
theorem pf26_ok : fnOk Try.prog 26 pf26 = true := by kernel_rfl

/-- hinterland/air.Way -/
def pf25 : PFn := ⟨41, 3, [.tmp 6, .tmp 7, .tmp 8], .seq
  (.reg [⟨some 3, none, .boxp 24 (.tmp 0)⟩,
    ⟨some 6, none, .mv (.val (.list .nil 1 []))⟩,
    ⟨some 7, none, .mv (.val (.bool false))⟩,
    ⟨some 8, none, .mv (.val (.int .i64 0))⟩] [] [1, 2, 3])
  (.seq
  (.seq
  (.reg [⟨some 12, none, .ld (some 2) (.tmp 3)⟩,
    ⟨some 13, none, .call 15 .pure [(.tmp 12)]⟩,
    ⟨some 9, none, .mv (.tmp 13)⟩] [] [1, 2, 3, 9])
  (.seq
  (.reg [⟨some 14, none, .mv (.tmp 9)⟩,
    ⟨some 15, none, .bin .neq (.tmp 14) (.val (.int .i64 0))⟩] [] [1, 2, 3, 9, 15])
  (.cond (.tmp 15)
  (.seq
  (.reg [⟨some 16, none, .mv (.tmp 9)⟩,
    ⟨some 6, none, .mv (.val (.list .nil 1 []))⟩,
    ⟨some 7, none, .mv (.val (.bool false))⟩,
    ⟨some 8, none, .mv (.tmp 16)⟩] [] [6, 7, 8])
  (.ret))
  (.skip))))
  (.seq
  (.seq
  (.reg [⟨some 17, none, .mv (.tmp 1)⟩,
    ⟨some 18, none, .bin .lss (.tmp 17) (.val (.int .i64 0))⟩,
    ⟨some 19, none, .mv (.tmp 18)⟩,
    ⟨some 20, (some (19, false)), .mv (.tmp 1)⟩,
    ⟨some 21, (some (19, false)), .faddr 0 (.tmp 3)⟩,
    ⟨some 22, (some (19, false)), .ld none (.tmp 21)⟩,
    ⟨some 23, (some (19, false)), .len (.tmp 22)⟩,
    ⟨some 24, (some (19, false)), .bin .geq (.tmp 20) (.tmp 23)⟩,
    ⟨some 25, none, .pick (.tmp 19) (.val (.bool true)) (.tmp 24)⟩] [] [1, 2, 3, 25])
  (.cond (.tmp 25)
  (.seq
  (.reg [⟨some 6, none, .mv (.val (.list .nil 1 []))⟩,
    ⟨some 7, none, .mv (.val (.bool false))⟩,
    ⟨some 8, none, .mv (.val (.int .i64 2))⟩] [] [6, 7, 8])
  (.ret))
  (.skip)))
  (.seq
  (.seq
  (.reg [⟨some 26, none, .mv (.tmp 2)⟩,
    ⟨some 27, none, .bin .lss (.tmp 26) (.val (.int .i64 0))⟩,
    ⟨some 28, none, .mv (.tmp 27)⟩,
    ⟨some 29, (some (28, false)), .mv (.tmp 2)⟩,
    ⟨some 30, (some (28, false)), .bin .gtr (.tmp 29) (.val (.int .i64 2))⟩,
    ⟨some 31, none, .pick (.tmp 28) (.val (.bool true)) (.tmp 30)⟩] [] [1, 2, 3, 31])
  (.cond (.tmp 31)
  (.seq
  (.reg [⟨some 6, none, .mv (.val (.list .nil 1 []))⟩,
    ⟨some 7, none, .mv (.val (.bool false))⟩,
    ⟨some 8, none, .mv (.val (.int .i64 1))⟩] [] [6, 7, 8])
  (.ret))
  (.skip)))
  (.seq
  (.reg [⟨some 33, none, .ld (some 2) (.tmp 3)⟩,
    ⟨some 34, none, .mv (.tmp 1)⟩,
    ⟨some 35, none, .mv (.tmp 2)⟩,
    ⟨some 36, none, .call 43 .pure [(.tmp 33), (.tmp 34), (.tmp 35), (.val (.clo (.func 50) [] []))]⟩,
    ⟨some 32, none, .mv (.tmp 36)⟩,
    ⟨some 37, none, .ext 0 (.tmp 32)⟩,
    ⟨some 38, none, .ext 1 (.tmp 32)⟩,
    ⟨some 10, none, .mv (.tmp 37)⟩,
    ⟨some 11, none, .mv (.tmp 38)⟩] [] [10, 11])
  (.seq
  (.reg [⟨some 39, none, .mv (.tmp 10)⟩,
    ⟨some 40, none, .mv (.tmp 11)⟩,
    ⟨some 6, none, .mv (.tmp 39)⟩,
    ⟨some 7, none, .mv (.tmp 40)⟩,
    ⟨some 8, none, .mv (.val (.int .i64 0))⟩] [] [6, 7, 8])
  (.ret))))))⟩
theorem pf25_ok : fnOk Try.prog 25 pf25 = true := by kernel_rfl

/-- hinterland/hinterlandref18.Arrive -/
def pf24 : PFn := ⟨46, 2, [.cell 4 (some 4), .tmp 5], .seq
  (.reg [⟨some 2, none, .boxp 31 (.tmp 0)⟩,
    ⟨some 4, none, .zer 31 (.agg [(.list .nil 2 []), (.int .i64 0), (.list .nil 5 []), (.int .i64 0)])⟩,
    ⟨some 5, none, .mv (.val (.int .i64 0))⟩] [] [1, 2, 4])
  (.seq
  (.seq
  (.reg [⟨some 9, none, .ld (some 4) (.tmp 2)⟩,
    ⟨some 10, none, .mv (.tmp 1)⟩,
    ⟨some 11, none, .call 49 .pure [(.tmp 9), (.tmp 10)]⟩,
    ⟨some 6, none, .mv (.tmp 11)⟩] [] [1, 2, 4, 6])
  (.seq
  (.reg [⟨some 12, none, .mv (.tmp 6)⟩,
    ⟨some 13, none, .bin .neq (.tmp 12) (.val (.int .i64 0))⟩] [] [1, 2, 4, 6, 13])
  (.cond (.tmp 13)
  (.seq
  (.reg [⟨some 14, none, .bld [(.list .nil 2 []), (.int .i64 0), (.list .nil 5 []), (.int .i64 0)] []⟩,
    ⟨some 15, none, .mv (.tmp 6)⟩,
    ⟨none, none, .st 4 (.tmp 4) (.tmp 14)⟩,
    ⟨some 5, none, .mv (.tmp 15)⟩] [] [4, 5])
  (.ret))
  (.skip))))
  (.seq
  (.seq
  (.reg [⟨some 16, none, .faddr 2 (.tmp 2)⟩,
    ⟨some 17, none, .ld none (.tmp 16)⟩,
    ⟨some 18, none, .mv (.tmp 1)⟩,
    ⟨some 19, none, .iaS 5 (.tmp 17) (.tmp 18)⟩,
    ⟨some 20, none, .faddr 0 (.tmp 19)⟩,
    ⟨some 21, none, .ld none (.tmp 20)⟩,
    ⟨some 22, none, .bin .geq (.tmp 21) (.val (.int .i64 0))⟩] [] [1, 2, 4, 22])
  (.cond (.tmp 22)
  (.seq
  (.reg [⟨some 23, none, .bld [(.list .nil 2 []), (.int .i64 0), (.list .nil 5 []), (.int .i64 0)] []⟩,
    ⟨none, none, .st 4 (.tmp 4) (.tmp 23)⟩,
    ⟨some 5, none, .mv (.val (.int .i64 13))⟩] [] [4, 5])
  (.ret))
  (.skip)))
  (.seq
  (.reg [⟨some 24, none, .ld (some 4) (.tmp 2)⟩,
    ⟨some 25, none, .call 44 .opn [(.tmp 24)]⟩,
    ⟨some 7, none, .zer 31 (.agg [(.list .nil 2 []), (.int .i64 0), (.list .nil 5 []), (.int .i64 0)])⟩,
    ⟨none, none, .st 4 (.tmp 7) (.tmp 25)⟩] [] [1, 2, 4, 7])
  (.seq
  (.reg [⟨some 26, none, .faddr 2 (.tmp 2)⟩,
    ⟨some 27, none, .ld none (.tmp 26)⟩,
    ⟨some 28, none, .mv (.tmp 1)⟩,
    ⟨some 29, none, .iaS 5 (.tmp 27) (.tmp 28)⟩,
    ⟨some 30, none, .ld (some 5) (.tmp 29)⟩,
    ⟨some 8, none, .zer 47 (.agg [(.int .i64 0), (.int .i64 0), (.int .i64 0), (.int .i64 0), (.int .i64 0)])⟩,
    ⟨none, none, .st 5 (.tmp 8) (.tmp 30)⟩] [] [1, 2, 4, 7, 8])
  (.seq
  (.reg [⟨some 31, none, .faddr 2 (.tmp 7)⟩,
    ⟨some 32, none, .ld none (.tmp 31)⟩,
    ⟨some 33, none, .mv (.tmp 1)⟩,
    ⟨some 34, none, .faddr 0 (.tmp 2)⟩,
    ⟨some 35, none, .faddr 1 (.tmp 34)⟩,
    ⟨some 36, none, .ld none (.tmp 35)⟩,
    ⟨some 37, none, .faddr 3 (.tmp 2)⟩,
    ⟨some 38, none, .ld none (.tmp 37)⟩,
    ⟨some 39, none, .faddr 3 (.tmp 8)⟩,
    ⟨some 40, none, .ld none (.tmp 39)⟩,
    ⟨some 41, none, .faddr 3 (.tmp 8)⟩,
    ⟨some 42, none, .ld none (.tmp 41)⟩,
    ⟨some 43, none, .bld [(.int .i64 0), (.int .i64 0), (.int .i64 0), (.int .i64 0), (.int .i64 0)] [(0, 1, (.tmp 36)), (1, 1, (.val (.int .i64 1))), (2, 1, (.tmp 38)), (3, 1, (.tmp 40)), (4, 1, (.tmp 42))]⟩,
    ⟨some 44, none, .iaS 5 (.tmp 32) (.tmp 33)⟩,
    ⟨none, none, .st 5 (.tmp 44) (.tmp 43)⟩] [] [4, 7])
  (.seq
  (.reg [⟨some 45, none, .ld (some 4) (.tmp 7)⟩,
    ⟨none, none, .st 4 (.tmp 4) (.tmp 45)⟩,
    ⟨some 5, none, .mv (.val (.int .i64 0))⟩] [] [4, 5])
  (.ret)))))))⟩
theorem pf24_ok : fnOk Try.prog 24 pf24 = true := by kernel_rfl

/-- hinterland/air.Arrive -/
def pf23 : PFn := ⟨61, 2, [.cell 4 (some 4), .tmp 5], .seq
  (.reg [⟨some 2, none, .boxp 31 (.tmp 0)⟩,
    ⟨some 4, none, .zer 31 (.agg [(.list .nil 2 []), (.int .i64 0), (.list .nil 5 []), (.int .i64 0)])⟩,
    ⟨some 5, none, .mv (.val (.int .i64 0))⟩] [] [1, 2, 4])
  (.seq
  (.seq
  (.reg [⟨some 9, none, .ld (some 4) (.tmp 2)⟩,
    ⟨some 10, none, .call 17 .pure [(.tmp 9)]⟩,
    ⟨some 6, none, .mv (.tmp 10)⟩] [] [1, 2, 4, 6])
  (.seq
  (.reg [⟨some 11, none, .mv (.tmp 6)⟩,
    ⟨some 12, none, .bin .neq (.tmp 11) (.val (.int .i64 0))⟩] [] [1, 2, 4, 6, 12])
  (.cond (.tmp 12)
  (.seq
  (.reg [⟨some 13, none, .bld [(.list .nil 2 []), (.int .i64 0), (.list .nil 5 []), (.int .i64 0)] []⟩,
    ⟨some 14, none, .mv (.tmp 6)⟩,
    ⟨none, none, .st 4 (.tmp 4) (.tmp 13)⟩,
    ⟨some 5, none, .mv (.tmp 14)⟩] [] [4, 5])
  (.ret))
  (.skip))))
  (.seq
  (.seq
  (.reg [⟨some 15, none, .mv (.tmp 1)⟩,
    ⟨some 16, none, .bin .lss (.tmp 15) (.val (.int .i64 0))⟩,
    ⟨some 17, none, .mv (.tmp 16)⟩,
    ⟨some 18, (some (17, false)), .mv (.tmp 1)⟩,
    ⟨some 19, (some (17, false)), .faddr 2 (.tmp 2)⟩,
    ⟨some 20, (some (17, false)), .ld none (.tmp 19)⟩,
    ⟨some 21, (some (17, false)), .len (.tmp 20)⟩,
    ⟨some 22, (some (17, false)), .bin .geq (.tmp 18) (.tmp 21)⟩,
    ⟨some 23, none, .pick (.tmp 17) (.val (.bool true)) (.tmp 22)⟩] [] [1, 2, 4, 23])
  (.cond (.tmp 23)
  (.seq
  (.reg [⟨some 24, none, .bld [(.list .nil 2 []), (.int .i64 0), (.list .nil 5 []), (.int .i64 0)] []⟩,
    ⟨none, none, .st 4 (.tmp 4) (.tmp 24)⟩,
    ⟨some 5, none, .mv (.val (.int .i64 2))⟩] [] [4, 5])
  (.ret))
  (.skip)))
  (.seq
  (.seq
  (.reg [⟨some 25, none, .faddr 2 (.tmp 2)⟩,
    ⟨some 26, none, .ld none (.tmp 25)⟩,
    ⟨some 27, none, .mv (.tmp 1)⟩,
    ⟨some 28, none, .iaS 5 (.tmp 26) (.tmp 27)⟩,
    ⟨some 29, none, .faddr 0 (.tmp 28)⟩,
    ⟨some 30, none, .ld none (.tmp 29)⟩,
    ⟨some 31, none, .bin .geq (.tmp 30) (.val (.int .i64 0))⟩] [] [1, 2, 4, 31])
  (.cond (.tmp 31)
  (.seq
  (.reg [⟨some 32, none, .bld [(.list .nil 2 []), (.int .i64 0), (.list .nil 5 []), (.int .i64 0)] []⟩,
    ⟨none, none, .st 4 (.tmp 4) (.tmp 32)⟩,
    ⟨some 5, none, .mv (.val (.int .i64 13))⟩] [] [4, 5])
  (.ret))
  (.skip)))
  (.seq
  (.reg [⟨some 33, none, .ld (some 4) (.tmp 2)⟩,
    ⟨some 34, none, .call 37 .opn [(.tmp 33)]⟩,
    ⟨some 7, none, .zer 31 (.agg [(.list .nil 2 []), (.int .i64 0), (.list .nil 5 []), (.int .i64 0)])⟩,
    ⟨none, none, .st 4 (.tmp 7) (.tmp 34)⟩] [] [1, 2, 4, 7])
  (.seq
  (.reg [⟨some 35, none, .faddr 2 (.tmp 7)⟩,
    ⟨some 36, none, .ld none (.tmp 35)⟩,
    ⟨some 37, none, .mv (.tmp 1)⟩,
    ⟨some 38, none, .iaS 5 (.tmp 36) (.tmp 37)⟩,
    ⟨some 8, none, .mv (.tmp 38)⟩] [] [2, 4, 7, 8])
  (.seq
  (.reg [⟨some 39, none, .mv (.tmp 8)⟩,
    ⟨some 40, none, .mv (.tmp 8)⟩,
    ⟨some 41, none, .mv (.tmp 8)⟩,
    ⟨some 42, none, .mv (.tmp 8)⟩,
    ⟨some 43, none, .faddr 0 (.tmp 2)⟩,
    ⟨some 44, none, .faddr 1 (.tmp 43)⟩,
    ⟨some 45, none, .ld none (.tmp 44)⟩,
    ⟨some 46, none, .faddr 3 (.tmp 2)⟩,
    ⟨some 47, none, .ld none (.tmp 46)⟩,
    ⟨some 48, none, .mv (.tmp 8)⟩,
    ⟨some 49, none, .nck (.tmp 48)⟩,
    ⟨some 50, none, .faddr 3 (.tmp 49)⟩,
    ⟨some 51, none, .ld none (.tmp 50)⟩,
    ⟨some 52, none, .nck (.tmp 39)⟩,
    ⟨some 53, none, .faddr 0 (.tmp 52)⟩,
    ⟨none, none, .st 1 (.tmp 53) (.tmp 45)⟩,
    ⟨some 54, none, .nck (.tmp 40)⟩,
    ⟨some 55, none, .faddr 1 (.tmp 54)⟩,
    ⟨none, none, .st 1 (.tmp 55) (.val (.int .i64 1))⟩,
    ⟨some 56, none, .nck (.tmp 41)⟩,
    ⟨some 57, none, .faddr 2 (.tmp 56)⟩,
    ⟨none, none, .st 1 (.tmp 57) (.tmp 47)⟩,
    ⟨some 58, none, .nck (.tmp 42)⟩,
    ⟨some 59, none, .faddr 4 (.tmp 58)⟩,
    ⟨none, none, .st 1 (.tmp 59) (.tmp 51)⟩] [(8, 15), (8, 16), (8, 18), (8, 19)] [4, 7])
  (.seq
  (.reg [⟨some 60, none, .ld (some 4) (.tmp 7)⟩,
    ⟨none, none, .st 4 (.tmp 4) (.tmp 60)⟩,
    ⟨some 5, none, .mv (.val (.int .i64 0))⟩] [] [4, 5])
  (.ret))))))))⟩
theorem pf23_ok : fnOk Try.prog 23 pf23 = true := by kernel_rfl

/-- hinterland/hinterlandsame.Sky -/
def pf22 : PFn := ⟨24, 2, [.tmp 4], .seq
  (.reg [⟨some 2, none, .boxp 31 (.tmp 0)⟩,
    ⟨some 3, none, .boxp 31 (.tmp 1)⟩,
    ⟨some 4, none, .mv (.val (.bool false))⟩] [] [2, 3])
  (.seq
  (.reg [⟨some 5, none, .faddr 0 (.tmp 2)⟩,
    ⟨some 6, none, .ld (some 2) (.tmp 5)⟩,
    ⟨some 7, none, .faddr 0 (.tmp 3)⟩,
    ⟨some 8, none, .ld (some 2) (.tmp 7)⟩,
    ⟨some 9, none, .call 30 .pure [(.tmp 6), (.tmp 8)]⟩,
    ⟨some 10, none, .mv (.tmp 9)⟩,
    ⟨some 11, (some (10, true)), .faddr 2 (.tmp 2)⟩,
    ⟨some 12, (some (10, true)), .ld none (.tmp 11)⟩,
    ⟨some 13, (some (10, true)), .faddr 2 (.tmp 3)⟩,
    ⟨some 14, (some (10, true)), .ld none (.tmp 13)⟩,
    ⟨some 15, (some (10, true)), .call 48 .pure [(.tmp 12), (.tmp 14)]⟩,
    ⟨some 16, none, .pick (.tmp 10) (.tmp 15) (.val (.bool false))⟩,
    ⟨some 17, none, .mv (.tmp 16)⟩,
    ⟨some 18, (some (17, true)), .faddr 3 (.tmp 2)⟩,
    ⟨some 19, (some (17, true)), .ld none (.tmp 18)⟩,
    ⟨some 20, (some (17, true)), .faddr 3 (.tmp 3)⟩,
    ⟨some 21, (some (17, true)), .ld none (.tmp 20)⟩,
    ⟨some 22, (some (17, true)), .bin .eql (.tmp 19) (.tmp 21)⟩,
    ⟨some 23, none, .pick (.tmp 17) (.tmp 22) (.val (.bool false))⟩,
    ⟨some 4, none, .mv (.tmp 23)⟩] [] [4])
  (.ret))⟩
theorem pf22_ok : fnOk Try.prog 22 pf22 = true := by kernel_rfl

/-- hinterland/hinterlandsame.List[int] -/
def pf21 : PFn := ⟨26, 2, [.tmp 4], .seq
  (.reg [⟨some 4, none, .mv (.val (.bool false))⟩] [] [0, 1])
  (.seq
  (.seq
  (.reg [⟨some 6, none, .mv (.tmp 0)⟩,
    ⟨some 7, none, .len (.tmp 6)⟩,
    ⟨some 8, none, .mv (.tmp 1)⟩,
    ⟨some 9, none, .len (.tmp 8)⟩,
    ⟨some 10, none, .bin .neq (.tmp 7) (.tmp 9)⟩] [] [0, 1, 10])
  (.cond (.tmp 10)
  (.seq
  (.reg [⟨some 4, none, .mv (.val (.bool false))⟩] [] [4])
  (.ret))
  (.skip)))
  (.seq
  (.seq
  (.reg [⟨some 5, none, .mv (.val (.int .i64 0))⟩] [] [0, 1, 5])
  (.blk 0 (.loop (.seq
  (.seq
  (.reg [⟨some 11, none, .mv (.tmp 5)⟩,
    ⟨some 12, none, .mv (.tmp 0)⟩,
    ⟨some 13, none, .len (.tmp 12)⟩,
    ⟨some 14, none, .bin .lss (.tmp 11) (.tmp 13)⟩] [] [0, 1, 5, 14])
  (.cond (.tmp 14)
  (.skip)
  (.ext 0)))
  (.seq
  (.blk 1 (.seq
  (.reg [⟨some 17, none, .mv (.tmp 0)⟩,
    ⟨some 18, none, .mv (.tmp 5)⟩,
    ⟨some 19, none, .iaS 1 (.tmp 17) (.tmp 18)⟩,
    ⟨some 20, none, .ld none (.tmp 19)⟩,
    ⟨some 21, none, .mv (.tmp 1)⟩,
    ⟨some 22, none, .mv (.tmp 5)⟩,
    ⟨some 23, none, .iaS 1 (.tmp 21) (.tmp 22)⟩,
    ⟨some 24, none, .ld none (.tmp 23)⟩,
    ⟨some 25, none, .bin .neq (.tmp 20) (.tmp 24)⟩] [] [0, 1, 5, 25])
  (.cond (.tmp 25)
  (.seq
  (.reg [⟨some 4, none, .mv (.val (.bool false))⟩] [] [4])
  (.ret))
  (.skip))))
  (.reg [⟨some 15, none, .mv (.tmp 5)⟩,
    ⟨some 16, none, .bin .add (.tmp 15) (.val (.int .i64 1))⟩,
    ⟨some 5, none, .mv (.tmp 16)⟩] [] [0, 1, 5]))))))
  (.seq
  (.reg [⟨some 4, none, .mv (.val (.bool true))⟩] [] [4])
  (.ret))))⟩
theorem pf21_ok : fnOk Try.prog 21 pf21 = true := by kernel_rfl

/-- hinterland/hinterlandref18.Step -/
def pf20 : PFn := ⟨138, 1, [.cell 2 (some 4), .tmp 3, .tmp 4], .seq
  (.reg [⟨some 1, none, .boxp 31 (.tmp 0)⟩,
    ⟨some 2, none, .zer 31 (.agg [(.list .nil 2 []), (.int .i64 0), (.list .nil 5 []), (.int .i64 0)])⟩,
    ⟨some 3, none, .mv (.val (.list .nil 1 []))⟩,
    ⟨some 4, none, .mv (.val (.int .i64 0))⟩] [] [1, 2])
  (.seq
  (.seq
  (.reg [⟨some 16, none, .ld (some 4) (.tmp 1)⟩,
    ⟨some 17, none, .call 18 .pure [(.tmp 16)]⟩,
    ⟨some 5, none, .mv (.tmp 17)⟩] [] [1, 2, 5])
  (.seq
  (.reg [⟨some 18, none, .mv (.tmp 5)⟩,
    ⟨some 19, none, .bin .neq (.tmp 18) (.val (.int .i64 0))⟩] [] [1, 2, 5, 19])
  (.cond (.tmp 19)
  (.seq
  (.reg [⟨some 20, none, .bld [(.list .nil 2 []), (.int .i64 0), (.list .nil 5 []), (.int .i64 0)] []⟩,
    ⟨some 21, none, .mv (.tmp 5)⟩,
    ⟨none, none, .st 4 (.tmp 2) (.tmp 20)⟩,
    ⟨some 3, none, .mv (.val (.list .nil 1 []))⟩,
    ⟨some 4, none, .mv (.tmp 21)⟩] [] [2, 3, 4])
  (.ret))
  (.skip))))
  (.seq
  (.seq
  (.reg [⟨some 22, none, .faddr 3 (.tmp 1)⟩,
    ⟨some 23, none, .ld none (.tmp 22)⟩,
    ⟨some 24, none, .bin .eql (.tmp 23) (.val (.int .i64 1600000))⟩] [] [1, 2, 24])
  (.cond (.tmp 24)
  (.seq
  (.reg [⟨some 25, none, .bld [(.list .nil 2 []), (.int .i64 0), (.list .nil 5 []), (.int .i64 0)] []⟩,
    ⟨none, none, .st 4 (.tmp 2) (.tmp 25)⟩,
    ⟨some 3, none, .mv (.val (.list .nil 1 []))⟩,
    ⟨some 4, none, .mv (.val (.int .i64 10))⟩] [] [2, 3, 4])
  (.ret))
  (.skip)))
  (.seq
  (.reg [⟨some 26, none, .ld (some 4) (.tmp 1)⟩,
    ⟨some 27, none, .call 44 .opn [(.tmp 26)]⟩,
    ⟨some 6, none, .zer 31 (.agg [(.list .nil 2 []), (.int .i64 0), (.list .nil 5 []), (.int .i64 0)])⟩,
    ⟨none, none, .st 4 (.tmp 6) (.tmp 27)⟩] [] [1, 2, 6])
  (.seq
  (.reg [⟨some 28, none, .faddr 3 (.tmp 6)⟩,
    ⟨some 29, none, .ld none (.tmp 28)⟩,
    ⟨some 30, none, .bin .add (.tmp 29) (.val (.int .i64 1))⟩,
    ⟨some 31, none, .faddr 3 (.tmp 6)⟩,
    ⟨none, none, .st 1 (.tmp 31) (.tmp 30)⟩] [] [1, 2, 6])
  (.seq
  (.reg [⟨some 7, none, .nacc 3 1⟩] [] [1, 2, 6, 7])
  (.seq
  (.seq
  (.reg [⟨some 32, none, .faddr 2 (.tmp 1)⟩,
    ⟨some 33, none, .ld none (.tmp 32)⟩,
    ⟨some 34, none, .call 45 .pure [(.tmp 33)]⟩,
    ⟨some 35, none, .len (.tmp 34)⟩,
    ⟨some 36, none, .mv (.val (.int .i64 0))⟩] [] [2, 6, 7, 34, 35, 36])
  (.blk 0 (.loop (.trim (.seq
  (.reg [⟨some 37, none, .bin .lss (.tmp 36) (.tmp 35)⟩] [] [2, 6, 7, 34, 35, 36, 37])
  (.seq
  (.cond (.tmp 37)
  (.skip)
  (.ext 0))
  (.seq
  (.blk 1 (.seq
  (.reg [⟨some 38, none, .iaS 1 (.tmp 34) (.tmp 36)⟩,
    ⟨some 39, none, .ld none (.tmp 38)⟩,
    ⟨some 9, none, .mv (.tmp 39)⟩] [] [2, 6, 7, 9, 34, 35, 36])
  (.seq
  (.reg [⟨some 40, none, .faddr 2 (.tmp 6)⟩,
    ⟨some 41, none, .ld none (.tmp 40)⟩,
    ⟨some 42, none, .mv (.tmp 9)⟩,
    ⟨some 43, none, .iaS 5 (.tmp 41) (.tmp 42)⟩,
    ⟨some 44, none, .ld (some 5) (.tmp 43)⟩,
    ⟨some 10, none, .zer 47 (.agg [(.int .i64 0), (.int .i64 0), (.int .i64 0), (.int .i64 0), (.int .i64 0)])⟩,
    ⟨none, none, .st 5 (.tmp 10) (.tmp 44)⟩] [] [2, 6, 7, 9, 10, 34, 35, 36])
  (.seq
  (.reg [⟨some 45, none, .faddr 4 (.tmp 10)⟩,
    ⟨some 46, none, .ld none (.tmp 45)⟩,
    ⟨some 47, none, .bin .sub (.tmp 46) (.val (.int .i64 1))⟩,
    ⟨some 48, none, .mx (.tmp 47) [(.val (.int .i64 0))]⟩,
    ⟨some 49, none, .faddr 4 (.tmp 10)⟩,
    ⟨none, none, .st 1 (.tmp 49) (.tmp 48)⟩] [] [2, 6, 7, 9, 10, 34, 35, 36])
  (.seq
  (.seq
  (.reg [⟨some 50, none, .faddr 4 (.tmp 10)⟩,
    ⟨some 51, none, .ld none (.tmp 50)⟩,
    ⟨some 52, none, .bin .eql (.tmp 51) (.val (.int .i64 0))⟩,
    ⟨some 53, none, .mv (.tmp 52)⟩,
    ⟨some 54, (some (53, true)), .faddr 1 (.tmp 10)⟩,
    ⟨some 55, (some (53, true)), .ld none (.tmp 54)⟩,
    ⟨some 56, (some (53, true)), .bin .gtr (.tmp 55) (.val (.int .i64 0))⟩,
    ⟨some 57, none, .pick (.tmp 53) (.tmp 56) (.val (.bool false))⟩] [] [2, 6, 7, 9, 10, 34, 35, 36, 57])
  (.cond (.tmp 57)
  (.seq
  (.reg [⟨some 58, none, .faddr 0 (.tmp 6)⟩,
    ⟨some 59, none, .ld (some 2) (.tmp 58)⟩,
    ⟨some 60, none, .faddr 0 (.tmp 10)⟩,
    ⟨some 61, none, .ld none (.tmp 60)⟩,
    ⟨some 62, none, .faddr 1 (.tmp 10)⟩,
    ⟨some 63, none, .ld none (.tmp 62)⟩,
    ⟨some 64, none, .call 46 .pure [(.tmp 59), (.tmp 61), (.tmp 63)]⟩] [] [2, 6, 7, 9, 10, 34, 35, 36, 64])
  (.cond (.tmp 64)
  (.seq
  (.seq
  (.reg [⟨some 65, none, .faddr 1 (.tmp 10)⟩,
    ⟨some 66, none, .ld none (.tmp 65)⟩,
    ⟨some 67, none, .bin .eql (.tmp 66) (.val (.int .i64 2))⟩] [] [2, 6, 7, 9, 10, 34, 35, 36, 67])
  (.cond (.tmp 67)
  (.reg [⟨some 68, none, .faddr 0 (.tmp 10)⟩,
    ⟨none, none, .st 1 (.tmp 68) (.val (.int .i64 (-1)))⟩] [] [2, 6, 7, 9, 10, 34, 35, 36])
  (.skip)))
  (.seq
  (.reg [⟨some 69, none, .faddr 1 (.tmp 10)⟩,
    ⟨none, none, .st 1 (.tmp 69) (.val (.int .i64 0))⟩] [] [2, 6, 7, 9, 10, 34, 35, 36])
  (.reg [⟨some 70, none, .mv (.tmp 7)⟩,
    ⟨some 71, none, .mv (.tmp 9)⟩,
    ⟨some 72, none, .bsl 1 1 [(.int .i64 0)] [(0, 1, (.tmp 71))]⟩,
    ⟨some 73, none, .app 3 1 8 (.tmp 70) (.tmp 72)⟩,
    ⟨some 7, none, .mv (.tmp 73)⟩] [] [2, 6, 7, 9, 10, 34, 35, 36])))
  (.seq
  (.reg [⟨some 74, none, .faddr 0 (.tmp 6)⟩,
    ⟨some 75, none, .faddr 0 (.tmp 74)⟩,
    ⟨some 76, none, .ld none (.tmp 75)⟩,
    ⟨some 77, none, .len (.tmp 76)⟩,
    ⟨some 78, none, .mks 4 1 1 [(.bool false)] (.tmp 77) (.tmp 77)⟩,
    ⟨some 11, none, .mv (.tmp 78)⟩] [] [2, 6, 7, 9, 10, 11, 34, 35, 36])
  (.seq
  (.seq
  (.reg [⟨some 79, none, .faddr 2 (.tmp 6)⟩,
    ⟨some 80, none, .ld none (.tmp 79)⟩,
    ⟨some 81, none, .len (.tmp 80)⟩,
    ⟨some 82, none, .mv (.val (.int .i64 0))⟩] [] [2, 6, 7, 9, 10, 11, 34, 35, 36, 80, 81, 82])
  (.blk 2 (.loop (.trim (.seq
  (.reg [⟨some 83, none, .bin .lss (.tmp 82) (.tmp 81)⟩] [] [2, 6, 7, 9, 10, 11, 34, 35, 36, 80, 81, 82, 83])
  (.seq
  (.cond (.tmp 83)
  (.skip)
  (.ext 2))
  (.seq
  (.blk 3 (.seq
  (.reg [⟨some 84, none, .mv (.tmp 82)⟩,
    ⟨some 85, none, .iaS 5 (.tmp 80) (.tmp 82)⟩,
    ⟨some 86, none, .ld (some 5) (.tmp 85)⟩,
    ⟨some 13, none, .zer 47 (.agg [(.int .i64 0), (.int .i64 0), (.int .i64 0), (.int .i64 0), (.int .i64 0)])⟩,
    ⟨some 12, none, .mv (.tmp 84)⟩,
    ⟨none, none, .st 5 (.tmp 13) (.tmp 86)⟩] [] [2, 6, 7, 9, 10, 11, 12, 13, 34, 35, 36, 80, 81, 82])
  (.seq
  (.reg [⟨some 87, none, .mv (.tmp 12)⟩,
    ⟨some 88, none, .mv (.tmp 9)⟩,
    ⟨some 89, none, .bin .neq (.tmp 87) (.tmp 88)⟩,
    ⟨some 90, none, .mv (.tmp 89)⟩,
    ⟨some 91, (some (90, true)), .faddr 0 (.tmp 13)⟩,
    ⟨some 92, (some (90, true)), .ld none (.tmp 91)⟩,
    ⟨some 93, (some (90, true)), .bin .geq (.tmp 92) (.val (.int .i64 0))⟩,
    ⟨some 94, none, .pick (.tmp 90) (.tmp 93) (.val (.bool false))⟩,
    ⟨some 95, none, .mv (.tmp 94)⟩,
    ⟨some 96, (some (95, true)), .faddr 0 (.tmp 6)⟩,
    ⟨some 97, (some (95, true)), .faddr 0 (.tmp 96)⟩,
    ⟨some 98, (some (95, true)), .ld none (.tmp 97)⟩,
    ⟨some 99, (some (95, true)), .faddr 0 (.tmp 13)⟩,
    ⟨some 100, (some (95, true)), .ld none (.tmp 99)⟩,
    ⟨some 101, (some (95, true)), .iaS 2 (.tmp 98) (.tmp 100)⟩,
    ⟨some 102, (some (95, true)), .faddr 0 (.tmp 101)⟩,
    ⟨some 103, (some (95, true)), .ld none (.tmp 102)⟩,
    ⟨some 104, (some (95, true)), .bin .neq (.tmp 103) (.val (.int .i64 0))⟩,
    ⟨some 105, none, .pick (.tmp 95) (.tmp 104) (.val (.bool false))⟩] [] [2, 6, 7, 9, 10, 11, 13, 34, 35, 36, 80, 81, 82, 105])
  (.cond (.tmp 105)
  (.reg [⟨some 106, none, .mv (.tmp 11)⟩,
    ⟨some 107, none, .faddr 0 (.tmp 13)⟩,
    ⟨some 108, none, .ld none (.tmp 107)⟩,
    ⟨some 109, none, .iaS 1 (.tmp 106) (.tmp 108)⟩,
    ⟨none, none, .st 1 (.tmp 109) (.val (.bool true))⟩] [] [2, 6, 7, 9, 10, 11, 34, 35, 36, 80, 81, 82])
  (.skip)))))
  (.reg [⟨some 110, none, .bin .add (.tmp 82) (.val (.int .i64 1))⟩,
    ⟨some 82, none, .mv (.tmp 110)⟩] [] [2, 6, 7, 9, 10, 11, 34, 35, 36, 80, 81, 82]))))))))
  (.seq
  (.reg [⟨some 112, none, .faddr 0 (.tmp 6)⟩,
    ⟨some 113, none, .ld (some 2) (.tmp 112)⟩,
    ⟨some 114, none, .faddr 0 (.tmp 10)⟩,
    ⟨some 115, none, .ld none (.tmp 114)⟩,
    ⟨some 116, none, .faddr 1 (.tmp 10)⟩,
    ⟨some 117, none, .ld none (.tmp 116)⟩,
    ⟨some 118, none, .mv (.tmp 11)⟩,
    ⟨some 119, none, .call 47 .pure [(.tmp 113), (.tmp 115), (.tmp 117), (.tmp 118)]⟩,
    ⟨some 111, none, .mv (.tmp 119)⟩,
    ⟨some 120, none, .ext 0 (.tmp 111)⟩,
    ⟨some 121, none, .ext 1 (.tmp 111)⟩,
    ⟨some 14, none, .mv (.tmp 120)⟩,
    ⟨some 15, none, .mv (.tmp 121)⟩] [] [2, 6, 7, 9, 10, 14, 15, 34, 35, 36])
  (.seq
  (.reg [⟨some 122, none, .mv (.tmp 15)⟩] [] [2, 6, 7, 9, 10, 14, 34, 35, 36, 122])
  (.cond (.tmp 122)
  (.seq
  (.reg [⟨some 123, none, .mv (.tmp 14)⟩,
    ⟨some 124, none, .iaS 1 (.tmp 123) (.val (.int .i64 1))⟩,
    ⟨some 125, none, .ld none (.tmp 124)⟩,
    ⟨some 126, none, .faddr 0 (.tmp 10)⟩,
    ⟨none, none, .st 1 (.tmp 126) (.tmp 125)⟩] [] [2, 6, 7, 9, 10, 34, 35, 36])
  (.reg [⟨some 127, none, .faddr 3 (.tmp 10)⟩,
    ⟨some 128, none, .ld none (.tmp 127)⟩,
    ⟨some 129, none, .faddr 4 (.tmp 10)⟩,
    ⟨none, none, .st 1 (.tmp 129) (.tmp 128)⟩] [] [2, 6, 7, 9, 10, 34, 35, 36]))
  (.skip))))))))
  (.skip)))
  (.reg [⟨some 130, none, .faddr 2 (.tmp 6)⟩,
    ⟨some 131, none, .ld none (.tmp 130)⟩,
    ⟨some 132, none, .mv (.tmp 9)⟩,
    ⟨some 133, none, .ld (some 5) (.tmp 10)⟩,
    ⟨some 134, none, .iaS 5 (.tmp 131) (.tmp 132)⟩,
    ⟨none, none, .st 5 (.tmp 134) (.tmp 133)⟩] [] [2, 6, 7, 34, 35, 36]))))))
  (.reg [⟨some 135, none, .bin .add (.tmp 36) (.val (.int .i64 1))⟩,
    ⟨some 36, none, .mv (.tmp 135)⟩] [] [2, 6, 7, 34, 35, 36]))))))))
  (.seq
  (.reg [⟨some 136, none, .ld (some 4) (.tmp 6)⟩,
    ⟨some 137, none, .mv (.tmp 7)⟩,
    ⟨none, none, .st 4 (.tmp 2) (.tmp 136)⟩,
    ⟨some 3, none, .mv (.tmp 137)⟩,
    ⟨some 4, none, .mv (.val (.int .i64 0))⟩] [] [2, 3, 4])
  (.ret))))))))⟩
theorem pf20_ok : fnOk Try.prog 20 pf20 = true := by kernel_rfl

/-- hinterland/air.Step -/
def pf19 : PFn := ⟨146, 1, [.cell 2 (some 4), .tmp 3, .tmp 4], .seq
  (.reg [⟨some 1, none, .boxp 31 (.tmp 0)⟩,
    ⟨some 2, none, .zer 31 (.agg [(.list .nil 2 []), (.int .i64 0), (.list .nil 5 []), (.int .i64 0)])⟩,
    ⟨some 3, none, .mv (.val (.list .nil 1 []))⟩,
    ⟨some 4, none, .mv (.val (.int .i64 0))⟩] [] [1, 2])
  (.seq
  (.seq
  (.reg [⟨some 17, none, .ld (some 4) (.tmp 1)⟩,
    ⟨some 18, none, .call 17 .pure [(.tmp 17)]⟩,
    ⟨some 5, none, .mv (.tmp 18)⟩] [] [1, 2, 5])
  (.seq
  (.reg [⟨some 19, none, .mv (.tmp 5)⟩,
    ⟨some 20, none, .bin .neq (.tmp 19) (.val (.int .i64 0))⟩] [] [1, 2, 5, 20])
  (.cond (.tmp 20)
  (.seq
  (.reg [⟨some 21, none, .bld [(.list .nil 2 []), (.int .i64 0), (.list .nil 5 []), (.int .i64 0)] []⟩,
    ⟨some 22, none, .mv (.tmp 5)⟩,
    ⟨none, none, .st 4 (.tmp 2) (.tmp 21)⟩,
    ⟨some 3, none, .mv (.val (.list .nil 1 []))⟩,
    ⟨some 4, none, .mv (.tmp 22)⟩] [] [2, 3, 4])
  (.ret))
  (.skip))))
  (.seq
  (.seq
  (.reg [⟨some 23, none, .faddr 3 (.tmp 1)⟩,
    ⟨some 24, none, .ld none (.tmp 23)⟩,
    ⟨some 25, none, .bin .geq (.tmp 24) (.val (.int .i64 1600000))⟩] [] [1, 2, 25])
  (.cond (.tmp 25)
  (.seq
  (.reg [⟨some 26, none, .bld [(.list .nil 2 []), (.int .i64 0), (.list .nil 5 []), (.int .i64 0)] []⟩,
    ⟨none, none, .st 4 (.tmp 2) (.tmp 26)⟩,
    ⟨some 3, none, .mv (.val (.list .nil 1 []))⟩,
    ⟨some 4, none, .mv (.val (.int .i64 10))⟩] [] [2, 3, 4])
  (.ret))
  (.skip)))
  (.seq
  (.reg [⟨some 27, none, .ld (some 4) (.tmp 1)⟩,
    ⟨some 28, none, .call 37 .opn [(.tmp 27)]⟩,
    ⟨some 6, none, .zer 31 (.agg [(.list .nil 2 []), (.int .i64 0), (.list .nil 5 []), (.int .i64 0)])⟩,
    ⟨none, none, .st 4 (.tmp 6) (.tmp 28)⟩] [] [1, 2, 6])
  (.seq
  (.reg [⟨some 29, none, .faddr 3 (.tmp 6)⟩,
    ⟨some 30, none, .ld none (.tmp 29)⟩,
    ⟨some 31, none, .bin .add (.tmp 30) (.val (.int .i64 1))⟩,
    ⟨some 32, none, .faddr 3 (.tmp 6)⟩,
    ⟨none, none, .st 1 (.tmp 32) (.tmp 31)⟩] [] [1, 2, 6])
  (.seq
  (.reg [⟨some 7, none, .nacc 3 1⟩,
    ⟨some 8, none, .nacc 3 1⟩] [] [1, 2, 6, 7, 8])
  (.seq
  (.seq
  (.reg [⟨some 33, none, .faddr 2 (.tmp 1)⟩,
    ⟨some 34, none, .ld none (.tmp 33)⟩,
    ⟨some 35, none, .len (.tmp 34)⟩,
    ⟨some 36, none, .mv (.val (.int .i64 0))⟩] [] [1, 2, 6, 7, 8, 34, 35, 36])
  (.blk 0 (.loop (.trim (.seq
  (.reg [⟨some 37, none, .bin .lss (.tmp 36) (.tmp 35)⟩] [] [1, 2, 6, 7, 8, 34, 35, 36, 37])
  (.seq
  (.cond (.tmp 37)
  (.skip)
  (.ext 0))
  (.seq
  (.blk 1 (.seq
  (.reg [⟨some 38, none, .mv (.tmp 36)⟩,
    ⟨some 39, none, .iaS 5 (.tmp 34) (.tmp 36)⟩,
    ⟨some 40, none, .ld (some 5) (.tmp 39)⟩,
    ⟨some 10, none, .zer 47 (.agg [(.int .i64 0), (.int .i64 0), (.int .i64 0), (.int .i64 0), (.int .i64 0)])⟩,
    ⟨some 9, none, .mv (.tmp 38)⟩,
    ⟨none, none, .st 5 (.tmp 10) (.tmp 40)⟩] [] [1, 2, 6, 7, 8, 9, 10, 34, 35, 36])
  (.seq
  (.reg [⟨some 41, none, .faddr 0 (.tmp 10)⟩,
    ⟨some 42, none, .ld none (.tmp 41)⟩,
    ⟨some 43, none, .bin .geq (.tmp 42) (.val (.int .i64 0))⟩] [] [1, 2, 6, 7, 8, 9, 34, 35, 36, 43])
  (.cond (.tmp 43)
  (.reg [⟨some 44, none, .mv (.tmp 7)⟩,
    ⟨some 45, none, .mv (.tmp 9)⟩,
    ⟨some 46, none, .bsl 1 1 [(.int .i64 0)] [(0, 1, (.tmp 45))]⟩,
    ⟨some 47, none, .app 3 1 8 (.tmp 44) (.tmp 46)⟩,
    ⟨some 7, none, .mv (.tmp 47)⟩] [] [1, 2, 6, 7, 8, 34, 35, 36])
  (.skip)))))
  (.reg [⟨some 48, none, .bin .add (.tmp 36) (.val (.int .i64 1))⟩,
    ⟨some 36, none, .mv (.tmp 48)⟩] [] [1, 2, 6, 7, 8, 34, 35, 36]))))))))
  (.seq
  (.reg [⟨some 49, none, .mv (.tmp 7)⟩,
    ⟨some 50, none, .mkf (.func 39) [] [(.tmp 1)]⟩,
    ⟨some 51, none, .call 38 .opn [(.tmp 49), (.tmp 50)]⟩] [] [2, 6, 7, 8])
  (.seq
  (.seq
  (.reg [⟨some 52, none, .mv (.tmp 7)⟩,
    ⟨some 53, none, .len (.tmp 52)⟩,
    ⟨some 54, none, .mv (.val (.int .i64 0))⟩] [] [2, 6, 8, 52, 53, 54])
  (.blk 2 (.loop (.seq
  (.reg [⟨some 55, none, .bin .lss (.tmp 54) (.tmp 53)⟩] [] [2, 6, 8, 52, 53, 54, 55])
  (.seq
  (.cond (.tmp 55)
  (.skip)
  (.ext 2))
  (.seq
  (.blk 3 (.seq
  (.reg [⟨some 56, none, .iaS 1 (.tmp 52) (.tmp 54)⟩,
    ⟨some 57, none, .ld none (.tmp 56)⟩,
    ⟨some 12, none, .mv (.tmp 57)⟩] [] [2, 6, 8, 12, 52, 53, 54])
  (.seq
  (.reg [⟨some 58, none, .faddr 2 (.tmp 6)⟩,
    ⟨some 59, none, .ld none (.tmp 58)⟩,
    ⟨some 60, none, .mv (.tmp 12)⟩,
    ⟨some 61, none, .iaS 5 (.tmp 59) (.tmp 60)⟩,
    ⟨some 13, none, .mv (.tmp 61)⟩] [] [2, 6, 8, 12, 13, 52, 53, 54])
  (.seq
  (.reg [⟨some 62, none, .mv (.tmp 13)⟩,
    ⟨some 63, none, .mv (.tmp 13)⟩,
    ⟨some 64, none, .nck (.tmp 63)⟩,
    ⟨some 65, none, .faddr 4 (.tmp 64)⟩,
    ⟨some 66, none, .ld none (.tmp 65)⟩,
    ⟨some 67, none, .bin .sub (.tmp 66) (.val (.int .i64 1))⟩,
    ⟨some 68, none, .mx (.tmp 67) [(.val (.int .i64 0))]⟩,
    ⟨some 69, none, .nck (.tmp 62)⟩,
    ⟨some 70, none, .faddr 4 (.tmp 69)⟩,
    ⟨none, none, .st 1 (.tmp 70) (.tmp 68)⟩] [] [2, 6, 8, 12, 13, 52, 53, 54])
  (.seq
  (.seq
  (.reg [⟨some 71, none, .mv (.tmp 13)⟩,
    ⟨some 72, none, .nck (.tmp 71)⟩,
    ⟨some 73, none, .faddr 4 (.tmp 72)⟩,
    ⟨some 74, none, .ld none (.tmp 73)⟩,
    ⟨some 75, none, .bin .gtr (.tmp 74) (.val (.int .i64 0))⟩,
    ⟨some 76, none, .mv (.tmp 75)⟩,
    ⟨some 77, (some (76, false)), .mv (.tmp 13)⟩,
    ⟨some 78, (some (76, false)), .nck (.tmp 77)⟩,
    ⟨some 79, (some (76, false)), .faddr 1 (.tmp 78)⟩,
    ⟨some 80, (some (76, false)), .ld none (.tmp 79)⟩,
    ⟨some 81, (some (76, false)), .bin .eql (.tmp 80) (.val (.int .i64 0))⟩,
    ⟨some 82, none, .pick (.tmp 76) (.val (.bool true)) (.tmp 81)⟩] [] [2, 6, 8, 12, 13, 52, 53, 54, 82])
  (.cond (.tmp 82)
  (.ext 3)
  (.skip)))
  (.seq
  (.seq
  (.reg [⟨some 83, none, .faddr 0 (.tmp 6)⟩,
    ⟨some 84, none, .ld (some 2) (.tmp 83)⟩,
    ⟨some 85, none, .mv (.tmp 13)⟩,
    ⟨some 86, none, .nck (.tmp 85)⟩,
    ⟨some 87, none, .faddr 0 (.tmp 86)⟩,
    ⟨some 88, none, .ld none (.tmp 87)⟩,
    ⟨some 89, none, .call 36 .pure [(.tmp 84), (.tmp 88)]⟩,
    ⟨some 90, none, .mv (.tmp 13)⟩,
    ⟨some 91, none, .nck (.tmp 90)⟩,
    ⟨some 92, none, .faddr 1 (.tmp 91)⟩,
    ⟨some 93, none, .ld none (.tmp 92)⟩,
    ⟨some 94, none, .mkf (.method "hinterland/air.ends") [(.tmp 89)] []⟩,
    ⟨some 95, none, .nck (.tmp 94)⟩,
    ⟨some 96, none, .mv (.tmp 89)⟩,
    ⟨some 97, none, .inv (.tmp 96) "hinterland/air.ends" .pure [(.tmp 93)]⟩] [] [2, 6, 8, 12, 13, 52, 53, 54, 97])
  (.cond (.tmp 97)
  (.seq
  (.seq
  (.reg [⟨some 98, none, .mv (.tmp 13)⟩,
    ⟨some 99, none, .nck (.tmp 98)⟩,
    ⟨some 100, none, .faddr 1 (.tmp 99)⟩,
    ⟨some 101, none, .ld none (.tmp 100)⟩,
    ⟨some 102, none, .bin .eql (.tmp 101) (.val (.int .i64 2))⟩] [] [2, 6, 8, 12, 13, 52, 53, 54, 102])
  (.cond (.tmp 102)
  (.reg [⟨some 103, none, .mv (.tmp 13)⟩,
    ⟨some 104, none, .nck (.tmp 103)⟩,
    ⟨some 105, none, .faddr 0 (.tmp 104)⟩,
    ⟨none, none, .st 1 (.tmp 105) (.val (.int .i64 (-1)))⟩] [] [2, 6, 8, 12, 13, 52, 53, 54])
  (.skip)))
  (.seq
  (.reg [⟨some 106, none, .mv (.tmp 13)⟩,
    ⟨some 107, none, .nck (.tmp 106)⟩,
    ⟨some 108, none, .faddr 1 (.tmp 107)⟩,
    ⟨none, none, .st 1 (.tmp 108) (.val (.int .i64 0))⟩] [] [2, 6, 8, 12, 52, 53, 54])
  (.seq
  (.reg [⟨some 109, none, .mv (.tmp 8)⟩,
    ⟨some 110, none, .mv (.tmp 12)⟩,
    ⟨some 111, none, .bsl 1 1 [(.int .i64 0)] [(0, 1, (.tmp 110))]⟩,
    ⟨some 112, none, .app 3 1 8 (.tmp 109) (.tmp 111)⟩,
    ⟨some 8, none, .mv (.tmp 112)⟩] [] [2, 6, 8, 52, 53, 54])
  (.ext 3))))
  (.skip)))
  (.seq
  (.reg [⟨some 113, none, .mkf (.func 40) [] [(.tmp 6)]⟩,
    ⟨some 14, none, .mv (.tmp 113)⟩] [] [2, 6, 8, 13, 14, 52, 53, 54])
  (.seq
  (.reg [⟨some 115, none, .faddr 0 (.tmp 6)⟩,
    ⟨some 116, none, .ld (some 2) (.tmp 115)⟩,
    ⟨some 117, none, .mv (.tmp 13)⟩,
    ⟨some 118, none, .nck (.tmp 117)⟩,
    ⟨some 119, none, .faddr 0 (.tmp 118)⟩,
    ⟨some 120, none, .ld none (.tmp 119)⟩,
    ⟨some 121, none, .mv (.tmp 13)⟩,
    ⟨some 122, none, .nck (.tmp 121)⟩,
    ⟨some 123, none, .faddr 1 (.tmp 122)⟩,
    ⟨some 124, none, .ld none (.tmp 123)⟩,
    ⟨some 125, none, .mv (.tmp 14)⟩,
    ⟨some 126, none, .call 43 .pure [(.tmp 116), (.tmp 120), (.tmp 124), (.tmp 125)]⟩,
    ⟨some 114, none, .mv (.tmp 126)⟩,
    ⟨some 127, none, .ext 0 (.tmp 114)⟩,
    ⟨some 128, none, .ext 1 (.tmp 114)⟩,
    ⟨some 15, none, .mv (.tmp 127)⟩,
    ⟨some 16, none, .mv (.tmp 128)⟩] [] [2, 6, 8, 13, 15, 16, 52, 53, 54])
  (.seq
  (.reg [⟨some 129, none, .mv (.tmp 16)⟩] [] [2, 6, 8, 13, 15, 52, 53, 54, 129])
  (.cond (.tmp 129)
  (.reg [⟨some 130, none, .mv (.tmp 13)⟩,
    ⟨some 131, none, .mv (.tmp 13)⟩,
    ⟨some 132, none, .mv (.tmp 15)⟩,
    ⟨some 133, none, .iaS 1 (.tmp 132) (.val (.int .i64 1))⟩,
    ⟨some 134, none, .ld none (.tmp 133)⟩,
    ⟨some 135, none, .mv (.tmp 13)⟩,
    ⟨some 136, none, .nck (.tmp 135)⟩,
    ⟨some 137, none, .faddr 3 (.tmp 136)⟩,
    ⟨some 138, none, .ld none (.tmp 137)⟩,
    ⟨some 139, none, .nck (.tmp 130)⟩,
    ⟨some 140, none, .faddr 0 (.tmp 139)⟩,
    ⟨none, none, .st 1 (.tmp 140) (.tmp 134)⟩,
    ⟨some 141, none, .nck (.tmp 131)⟩,
    ⟨some 142, none, .faddr 4 (.tmp 141)⟩,
    ⟨none, none, .st 1 (.tmp 142) (.tmp 138)⟩] [] [2, 6, 8, 52, 53, 54])
  (.skip)))))))))))
  (.reg [⟨some 143, none, .bin .add (.tmp 54) (.val (.int .i64 1))⟩,
    ⟨some 54, none, .mv (.tmp 143)⟩] [] [2, 6, 8, 52, 53, 54])))))))
  (.seq
  (.reg [⟨some 144, none, .ld (some 4) (.tmp 6)⟩,
    ⟨some 145, none, .mv (.tmp 8)⟩,
    ⟨none, none, .st 4 (.tmp 2) (.tmp 144)⟩,
    ⟨some 3, none, .mv (.tmp 145)⟩,
    ⟨some 4, none, .mv (.val (.int .i64 0))⟩] [] [2, 3, 4])
  (.ret))))))))))⟩
theorem pf19_ok : fnOk Try.prog 19 pf19 = true := by kernel_rfl

/-- hinterland/hinterlandref18.ValidateSky -/
def pf18 : PFn := ⟨115, 1, [.tmp 2], .seq
  (.reg [⟨some 1, none, .boxp 31 (.tmp 0)⟩,
    ⟨some 2, none, .mv (.val (.int .i64 0))⟩] [] [1])
  (.seq
  (.seq
  (.reg [⟨some 12, none, .faddr 0 (.tmp 1)⟩,
    ⟨some 13, none, .ld (some 2) (.tmp 12)⟩,
    ⟨some 14, none, .call 16 .pure [(.tmp 13)]⟩,
    ⟨some 3, none, .mv (.tmp 14)⟩] [] [1, 3])
  (.seq
  (.reg [⟨some 15, none, .mv (.tmp 3)⟩,
    ⟨some 16, none, .bin .neq (.tmp 15) (.val (.int .i64 0))⟩] [] [1, 3, 16])
  (.cond (.tmp 16)
  (.seq
  (.reg [⟨some 17, none, .mv (.tmp 3)⟩,
    ⟨some 2, none, .mv (.tmp 17)⟩] [] [2])
  (.ret))
  (.skip))))
  (.seq
  (.seq
  (.reg [⟨some 18, none, .faddr 2 (.tmp 1)⟩,
    ⟨some 19, none, .ld none (.tmp 18)⟩,
    ⟨some 20, none, .len (.tmp 19)⟩,
    ⟨some 21, none, .bin .gtr (.tmp 20) (.val (.int .i64 40))⟩] [] [1, 21])
  (.cond (.tmp 21)
  (.seq
  (.reg [⟨some 2, none, .mv (.val (.int .i64 4))⟩] [] [2])
  (.ret))
  (.skip)))
  (.seq
  (.seq
  (.reg [⟨some 22, none, .faddr 3 (.tmp 1)⟩,
    ⟨some 23, none, .ld none (.tmp 22)⟩,
    ⟨some 24, none, .call 35 .pure [(.tmp 23), (.val (.int .i64 0)), (.val (.int .i64 1600000))]⟩,
    ⟨some 25, none, .un .not (.tmp 24)⟩] [] [1, 25])
  (.cond (.tmp 25)
  (.seq
  (.reg [⟨some 2, none, .mv (.val (.int .i64 1))⟩] [] [2])
  (.ret))
  (.skip)))
  (.seq
  (.seq
  (.reg [⟨some 26, none, .faddr 2 (.tmp 1)⟩,
    ⟨some 27, none, .ld none (.tmp 26)⟩,
    ⟨some 28, none, .len (.tmp 27)⟩,
    ⟨some 29, none, .mv (.val (.int .i64 0))⟩] [] [1, 27, 28, 29])
  (.blk 0 (.loop (.trim (.seq
  (.reg [⟨some 30, none, .bin .lss (.tmp 29) (.tmp 28)⟩] [] [1, 27, 28, 29, 30])
  (.seq
  (.cond (.tmp 30)
  (.skip)
  (.ext 0))
  (.seq
  (.blk 1 (.seq
  (.reg [⟨some 31, none, .iaS 5 (.tmp 27) (.tmp 29)⟩,
    ⟨some 32, none, .ld (some 5) (.tmp 31)⟩,
    ⟨some 5, none, .zer 47 (.agg [(.int .i64 0), (.int .i64 0), (.int .i64 0), (.int .i64 0), (.int .i64 0)])⟩,
    ⟨none, none, .st 5 (.tmp 5) (.tmp 32)⟩] [] [1, 5, 27, 28, 29])
  (.seq
  (.reg [⟨some 33, none, .faddr 1 (.tmp 5)⟩,
    ⟨some 34, none, .ld none (.tmp 33)⟩,
    ⟨some 35, none, .call 35 .pure [(.tmp 34), (.val (.int .i64 0)), (.val (.int .i64 2))]⟩,
    ⟨some 36, none, .un .not (.tmp 35)⟩,
    ⟨some 37, none, .mv (.tmp 36)⟩,
    ⟨some 38, (some (37, false)), .faddr 2 (.tmp 5)⟩,
    ⟨some 39, (some (37, false)), .ld none (.tmp 38)⟩,
    ⟨some 40, (some (37, false)), .faddr 3 (.tmp 1)⟩,
    ⟨some 41, (some (37, false)), .ld none (.tmp 40)⟩,
    ⟨some 42, (some (37, false)), .call 35 .pure [(.tmp 39), (.val (.int .i64 0)), (.tmp 41)]⟩,
    ⟨some 43, (some (37, false)), .un .not (.tmp 42)⟩,
    ⟨some 44, none, .pick (.tmp 37) (.val (.bool true)) (.tmp 43)⟩,
    ⟨some 45, none, .mv (.tmp 44)⟩,
    ⟨some 46, (some (45, false)), .faddr 3 (.tmp 5)⟩,
    ⟨some 47, (some (45, false)), .ld none (.tmp 46)⟩,
    ⟨some 48, (some (45, false)), .call 35 .pure [(.tmp 47), (.val (.int .i64 1)), (.val (.int .i64 1000000))]⟩,
    ⟨some 49, (some (45, false)), .un .not (.tmp 48)⟩,
    ⟨some 50, none, .pick (.tmp 45) (.val (.bool true)) (.tmp 49)⟩,
    ⟨some 51, none, .mv (.tmp 50)⟩,
    ⟨some 52, (some (51, false)), .faddr 4 (.tmp 5)⟩,
    ⟨some 53, (some (51, false)), .ld none (.tmp 52)⟩,
    ⟨some 54, (some (51, false)), .call 35 .pure [(.tmp 53), (.val (.int .i64 0)), (.val (.int .i64 1000000))]⟩,
    ⟨some 55, (some (51, false)), .un .not (.tmp 54)⟩,
    ⟨some 56, none, .pick (.tmp 51) (.val (.bool true)) (.tmp 55)⟩] [] [1, 27, 28, 29, 56])
  (.cond (.tmp 56)
  (.seq
  (.reg [⟨some 2, none, .mv (.val (.int .i64 1))⟩] [] [2])
  (.ret))
  (.skip)))))
  (.reg [⟨some 57, none, .bin .add (.tmp 29) (.val (.int .i64 1))⟩,
    ⟨some 29, none, .mv (.tmp 57)⟩] [] [1, 27, 28, 29]))))))))
  (.seq
  (.seq
  (.reg [⟨some 58, none, .faddr 2 (.tmp 1)⟩,
    ⟨some 59, none, .ld none (.tmp 58)⟩,
    ⟨some 60, none, .len (.tmp 59)⟩,
    ⟨some 61, none, .mv (.val (.int .i64 0))⟩] [] [1, 59, 60, 61])
  (.blk 2 (.loop (.trim (.seq
  (.reg [⟨some 62, none, .bin .lss (.tmp 61) (.tmp 60)⟩] [] [1, 59, 60, 61, 62])
  (.seq
  (.cond (.tmp 62)
  (.skip)
  (.ext 2))
  (.seq
  (.blk 3 (.seq
  (.reg [⟨some 63, none, .iaS 5 (.tmp 59) (.tmp 61)⟩,
    ⟨some 64, none, .ld (some 5) (.tmp 63)⟩,
    ⟨some 7, none, .zer 47 (.agg [(.int .i64 0), (.int .i64 0), (.int .i64 0), (.int .i64 0), (.int .i64 0)])⟩,
    ⟨none, none, .st 5 (.tmp 7) (.tmp 64)⟩] [] [1, 7, 59, 60, 61])
  (.seq
  (.reg [⟨some 65, none, .faddr 0 (.tmp 7)⟩,
    ⟨some 66, none, .ld none (.tmp 65)⟩,
    ⟨some 67, none, .faddr 0 (.tmp 1)⟩,
    ⟨some 68, none, .faddr 0 (.tmp 67)⟩,
    ⟨some 69, none, .ld none (.tmp 68)⟩,
    ⟨some 70, none, .len (.tmp 69)⟩,
    ⟨some 71, none, .bin .sub (.tmp 70) (.val (.int .i64 1))⟩,
    ⟨some 72, none, .call 35 .pure [(.tmp 66), (.val (.int .i64 (-1))), (.tmp 71)]⟩,
    ⟨some 73, none, .un .not (.tmp 72)⟩] [] [1, 59, 60, 61, 73])
  (.cond (.tmp 73)
  (.seq
  (.reg [⟨some 2, none, .mv (.val (.int .i64 2))⟩] [] [2])
  (.ret))
  (.skip)))))
  (.reg [⟨some 74, none, .bin .add (.tmp 61) (.val (.int .i64 1))⟩,
    ⟨some 61, none, .mv (.tmp 74)⟩] [] [1, 59, 60, 61]))))))))
  (.seq
  (.seq
  (.reg [⟨some 75, none, .faddr 2 (.tmp 1)⟩,
    ⟨some 76, none, .ld none (.tmp 75)⟩,
    ⟨some 77, none, .len (.tmp 76)⟩,
    ⟨some 78, none, .mv (.val (.int .i64 0))⟩] [] [1, 76, 77, 78])
  (.blk 4 (.loop (.trim (.seq
  (.reg [⟨some 79, none, .bin .lss (.tmp 78) (.tmp 77)⟩] [] [1, 76, 77, 78, 79])
  (.seq
  (.cond (.tmp 79)
  (.skip)
  (.ext 4))
  (.seq
  (.blk 5 (.seq
  (.reg [⟨some 80, none, .mv (.tmp 78)⟩,
    ⟨some 81, none, .iaS 5 (.tmp 76) (.tmp 78)⟩,
    ⟨some 82, none, .ld (some 5) (.tmp 81)⟩,
    ⟨some 9, none, .zer 47 (.agg [(.int .i64 0), (.int .i64 0), (.int .i64 0), (.int .i64 0), (.int .i64 0)])⟩,
    ⟨some 8, none, .mv (.tmp 80)⟩,
    ⟨none, none, .st 5 (.tmp 9) (.tmp 82)⟩] [] [1, 8, 9, 76, 77, 78])
  (.seq
  (.reg [⟨some 83, none, .faddr 2 (.tmp 1)⟩,
    ⟨some 84, none, .ld none (.tmp 83)⟩,
    ⟨some 85, none, .mv (.tmp 8)⟩,
    ⟨some 86, none, .slc 5 (.tmp 84) none (some (.tmp 85)) none⟩,
    ⟨some 87, none, .len (.tmp 86)⟩,
    ⟨some 88, none, .mv (.val (.int .i64 0))⟩] [] [1, 9, 76, 77, 78, 86, 87, 88])
  (.blk 6 (.loop (.trim (.seq
  (.reg [⟨some 89, none, .bin .lss (.tmp 88) (.tmp 87)⟩] [] [1, 9, 76, 77, 78, 86, 87, 88, 89])
  (.seq
  (.cond (.tmp 89)
  (.skip)
  (.ext 6))
  (.seq
  (.blk 7 (.seq
  (.reg [⟨some 90, none, .iaS 5 (.tmp 86) (.tmp 88)⟩,
    ⟨some 91, none, .ld (some 5) (.tmp 90)⟩,
    ⟨some 11, none, .zer 47 (.agg [(.int .i64 0), (.int .i64 0), (.int .i64 0), (.int .i64 0), (.int .i64 0)])⟩,
    ⟨none, none, .st 5 (.tmp 11) (.tmp 91)⟩] [] [1, 9, 11, 76, 77, 78, 86, 87, 88])
  (.seq
  (.reg [⟨some 92, none, .faddr 0 (.tmp 9)⟩,
    ⟨some 93, none, .ld none (.tmp 92)⟩,
    ⟨some 94, none, .bin .geq (.tmp 93) (.val (.int .i64 0))⟩,
    ⟨some 95, none, .mv (.tmp 94)⟩,
    ⟨some 96, (some (95, true)), .faddr 0 (.tmp 9)⟩,
    ⟨some 97, (some (95, true)), .ld none (.tmp 96)⟩,
    ⟨some 98, (some (95, true)), .faddr 0 (.tmp 11)⟩,
    ⟨some 99, (some (95, true)), .ld none (.tmp 98)⟩,
    ⟨some 100, (some (95, true)), .bin .eql (.tmp 97) (.tmp 99)⟩,
    ⟨some 101, none, .pick (.tmp 95) (.tmp 100) (.val (.bool false))⟩,
    ⟨some 102, none, .mv (.tmp 101)⟩,
    ⟨some 103, (some (102, true)), .faddr 0 (.tmp 1)⟩,
    ⟨some 104, (some (102, true)), .faddr 0 (.tmp 103)⟩,
    ⟨some 105, (some (102, true)), .ld none (.tmp 104)⟩,
    ⟨some 106, (some (102, true)), .faddr 0 (.tmp 9)⟩,
    ⟨some 107, (some (102, true)), .ld none (.tmp 106)⟩,
    ⟨some 108, (some (102, true)), .iaS 2 (.tmp 105) (.tmp 107)⟩,
    ⟨some 109, (some (102, true)), .faddr 0 (.tmp 108)⟩,
    ⟨some 110, (some (102, true)), .ld none (.tmp 109)⟩,
    ⟨some 111, (some (102, true)), .bin .neq (.tmp 110) (.val (.int .i64 0))⟩,
    ⟨some 112, none, .pick (.tmp 102) (.tmp 111) (.val (.bool false))⟩] [] [1, 9, 76, 77, 78, 86, 87, 88, 112])
  (.cond (.tmp 112)
  (.seq
  (.reg [⟨some 2, none, .mv (.val (.int .i64 7))⟩] [] [2])
  (.ret))
  (.skip)))))
  (.reg [⟨some 113, none, .bin .add (.tmp 88) (.val (.int .i64 1))⟩,
    ⟨some 88, none, .mv (.tmp 113)⟩] [] [1, 9, 76, 77, 78, 86, 87, 88]))))))))))
  (.reg [⟨some 114, none, .bin .add (.tmp 78) (.val (.int .i64 1))⟩,
    ⟨some 78, none, .mv (.tmp 114)⟩] [] [1, 76, 77, 78]))))))))
  (.seq
  (.reg [⟨some 2, none, .mv (.val (.int .i64 0))⟩] [] [2])
  (.ret))))))))⟩
theorem pf18_ok : fnOk Try.prog 18 pf18 = true := by kernel_rfl

/-- hinterland/air.ValidateSky -/
def pf17 : PFn := ⟨136, 1, [.tmp 2], .seq
  (.reg [⟨some 1, none, .boxp 31 (.tmp 0)⟩,
    ⟨some 2, none, .mv (.val (.int .i64 0))⟩] [] [1])
  (.seq
  (.seq
  (.reg [⟨some 12, none, .faddr 0 (.tmp 1)⟩,
    ⟨some 13, none, .ld (some 2) (.tmp 12)⟩,
    ⟨some 14, none, .call 15 .pure [(.tmp 13)]⟩,
    ⟨some 3, none, .mv (.tmp 14)⟩] [] [1, 3])
  (.seq
  (.reg [⟨some 15, none, .mv (.tmp 3)⟩,
    ⟨some 16, none, .bin .neq (.tmp 15) (.val (.int .i64 0))⟩] [] [1, 3, 16])
  (.cond (.tmp 16)
  (.seq
  (.reg [⟨some 17, none, .mv (.tmp 3)⟩,
    ⟨some 2, none, .mv (.tmp 17)⟩] [] [2])
  (.ret))
  (.skip))))
  (.seq
  (.seq
  (.reg [⟨some 18, none, .faddr 2 (.tmp 1)⟩,
    ⟨some 19, none, .ld none (.tmp 18)⟩,
    ⟨some 20, none, .len (.tmp 19)⟩,
    ⟨some 21, none, .bin .gtr (.tmp 20) (.val (.int .i64 40))⟩] [] [1, 21])
  (.cond (.tmp 21)
  (.seq
  (.reg [⟨some 2, none, .mv (.val (.int .i64 4))⟩] [] [2])
  (.ret))
  (.skip)))
  (.seq
  (.seq
  (.reg [⟨some 22, none, .faddr 3 (.tmp 1)⟩,
    ⟨some 23, none, .ld none (.tmp 22)⟩,
    ⟨some 24, none, .bin .lss (.tmp 23) (.val (.int .i64 0))⟩,
    ⟨some 25, none, .mv (.tmp 24)⟩,
    ⟨some 26, (some (25, false)), .faddr 3 (.tmp 1)⟩,
    ⟨some 27, (some (25, false)), .ld none (.tmp 26)⟩,
    ⟨some 28, (some (25, false)), .bin .gtr (.tmp 27) (.val (.int .i64 1600000))⟩,
    ⟨some 29, none, .pick (.tmp 25) (.val (.bool true)) (.tmp 28)⟩] [] [1, 29])
  (.cond (.tmp 29)
  (.seq
  (.reg [⟨some 2, none, .mv (.val (.int .i64 1))⟩] [] [2])
  (.ret))
  (.skip)))
  (.seq
  (.seq
  (.reg [⟨some 30, none, .faddr 2 (.tmp 1)⟩,
    ⟨some 31, none, .ld none (.tmp 30)⟩,
    ⟨some 32, none, .len (.tmp 31)⟩,
    ⟨some 33, none, .mv (.val (.int .i64 0))⟩] [] [1, 31, 32, 33])
  (.blk 0 (.loop (.trim (.seq
  (.reg [⟨some 34, none, .bin .lss (.tmp 33) (.tmp 32)⟩] [] [1, 31, 32, 33, 34])
  (.seq
  (.cond (.tmp 34)
  (.skip)
  (.ext 0))
  (.seq
  (.blk 1 (.seq
  (.reg [⟨some 35, none, .iaS 5 (.tmp 31) (.tmp 33)⟩,
    ⟨some 36, none, .ld (some 5) (.tmp 35)⟩,
    ⟨some 5, none, .zer 47 (.agg [(.int .i64 0), (.int .i64 0), (.int .i64 0), (.int .i64 0), (.int .i64 0)])⟩,
    ⟨none, none, .st 5 (.tmp 5) (.tmp 36)⟩] [] [1, 5, 31, 32, 33])
  (.seq
  (.reg [⟨some 37, none, .faddr 1 (.tmp 5)⟩,
    ⟨some 38, none, .ld none (.tmp 37)⟩,
    ⟨some 39, none, .bin .lss (.tmp 38) (.val (.int .i64 0))⟩,
    ⟨some 40, none, .mv (.tmp 39)⟩,
    ⟨some 41, (some (40, false)), .faddr 1 (.tmp 5)⟩,
    ⟨some 42, (some (40, false)), .ld none (.tmp 41)⟩,
    ⟨some 43, (some (40, false)), .bin .gtr (.tmp 42) (.val (.int .i64 2))⟩,
    ⟨some 44, none, .pick (.tmp 40) (.val (.bool true)) (.tmp 43)⟩,
    ⟨some 45, none, .mv (.tmp 44)⟩,
    ⟨some 46, (some (45, false)), .faddr 2 (.tmp 5)⟩,
    ⟨some 47, (some (45, false)), .ld none (.tmp 46)⟩,
    ⟨some 48, (some (45, false)), .bin .lss (.tmp 47) (.val (.int .i64 0))⟩,
    ⟨some 49, none, .pick (.tmp 45) (.val (.bool true)) (.tmp 48)⟩,
    ⟨some 50, none, .mv (.tmp 49)⟩,
    ⟨some 51, (some (50, false)), .faddr 2 (.tmp 5)⟩,
    ⟨some 52, (some (50, false)), .ld none (.tmp 51)⟩,
    ⟨some 53, (some (50, false)), .faddr 3 (.tmp 1)⟩,
    ⟨some 54, (some (50, false)), .ld none (.tmp 53)⟩,
    ⟨some 55, (some (50, false)), .bin .gtr (.tmp 52) (.tmp 54)⟩,
    ⟨some 56, none, .pick (.tmp 50) (.val (.bool true)) (.tmp 55)⟩,
    ⟨some 57, none, .mv (.tmp 56)⟩,
    ⟨some 58, (some (57, false)), .faddr 3 (.tmp 5)⟩,
    ⟨some 59, (some (57, false)), .ld none (.tmp 58)⟩,
    ⟨some 60, (some (57, false)), .bin .lss (.tmp 59) (.val (.int .i64 1))⟩,
    ⟨some 61, none, .pick (.tmp 57) (.val (.bool true)) (.tmp 60)⟩,
    ⟨some 62, none, .mv (.tmp 61)⟩,
    ⟨some 63, (some (62, false)), .faddr 3 (.tmp 5)⟩,
    ⟨some 64, (some (62, false)), .ld none (.tmp 63)⟩,
    ⟨some 65, (some (62, false)), .bin .gtr (.tmp 64) (.val (.int .i64 1000000))⟩,
    ⟨some 66, none, .pick (.tmp 62) (.val (.bool true)) (.tmp 65)⟩,
    ⟨some 67, none, .mv (.tmp 66)⟩,
    ⟨some 68, (some (67, false)), .faddr 4 (.tmp 5)⟩,
    ⟨some 69, (some (67, false)), .ld none (.tmp 68)⟩,
    ⟨some 70, (some (67, false)), .bin .lss (.tmp 69) (.val (.int .i64 0))⟩,
    ⟨some 71, none, .pick (.tmp 67) (.val (.bool true)) (.tmp 70)⟩,
    ⟨some 72, none, .mv (.tmp 71)⟩,
    ⟨some 73, (some (72, false)), .faddr 4 (.tmp 5)⟩,
    ⟨some 74, (some (72, false)), .ld none (.tmp 73)⟩,
    ⟨some 75, (some (72, false)), .bin .gtr (.tmp 74) (.val (.int .i64 1000000))⟩,
    ⟨some 76, none, .pick (.tmp 72) (.val (.bool true)) (.tmp 75)⟩] [] [1, 31, 32, 33, 76])
  (.cond (.tmp 76)
  (.seq
  (.reg [⟨some 2, none, .mv (.val (.int .i64 1))⟩] [] [2])
  (.ret))
  (.skip)))))
  (.reg [⟨some 77, none, .bin .add (.tmp 33) (.val (.int .i64 1))⟩,
    ⟨some 33, none, .mv (.tmp 77)⟩] [] [1, 31, 32, 33]))))))))
  (.seq
  (.seq
  (.reg [⟨some 78, none, .faddr 2 (.tmp 1)⟩,
    ⟨some 79, none, .ld none (.tmp 78)⟩,
    ⟨some 80, none, .len (.tmp 79)⟩,
    ⟨some 81, none, .mv (.val (.int .i64 0))⟩] [] [1, 79, 80, 81])
  (.blk 2 (.loop (.trim (.seq
  (.reg [⟨some 82, none, .bin .lss (.tmp 81) (.tmp 80)⟩] [] [1, 79, 80, 81, 82])
  (.seq
  (.cond (.tmp 82)
  (.skip)
  (.ext 2))
  (.seq
  (.blk 3 (.seq
  (.reg [⟨some 83, none, .iaS 5 (.tmp 79) (.tmp 81)⟩,
    ⟨some 84, none, .ld (some 5) (.tmp 83)⟩,
    ⟨some 7, none, .zer 47 (.agg [(.int .i64 0), (.int .i64 0), (.int .i64 0), (.int .i64 0), (.int .i64 0)])⟩,
    ⟨none, none, .st 5 (.tmp 7) (.tmp 84)⟩] [] [1, 7, 79, 80, 81])
  (.seq
  (.reg [⟨some 85, none, .faddr 0 (.tmp 7)⟩,
    ⟨some 86, none, .ld none (.tmp 85)⟩,
    ⟨some 87, none, .bin .lss (.tmp 86) (.val (.int .i64 (-1)))⟩,
    ⟨some 88, none, .mv (.tmp 87)⟩,
    ⟨some 89, (some (88, false)), .faddr 0 (.tmp 7)⟩,
    ⟨some 90, (some (88, false)), .ld none (.tmp 89)⟩,
    ⟨some 91, (some (88, false)), .faddr 0 (.tmp 1)⟩,
    ⟨some 92, (some (88, false)), .faddr 0 (.tmp 91)⟩,
    ⟨some 93, (some (88, false)), .ld none (.tmp 92)⟩,
    ⟨some 94, (some (88, false)), .len (.tmp 93)⟩,
    ⟨some 95, (some (88, false)), .bin .geq (.tmp 90) (.tmp 94)⟩,
    ⟨some 96, none, .pick (.tmp 88) (.val (.bool true)) (.tmp 95)⟩] [] [1, 79, 80, 81, 96])
  (.cond (.tmp 96)
  (.seq
  (.reg [⟨some 2, none, .mv (.val (.int .i64 2))⟩] [] [2])
  (.ret))
  (.skip)))))
  (.reg [⟨some 97, none, .bin .add (.tmp 81) (.val (.int .i64 1))⟩,
    ⟨some 81, none, .mv (.tmp 97)⟩] [] [1, 79, 80, 81]))))))))
  (.seq
  (.seq
  (.reg [⟨some 98, none, .faddr 2 (.tmp 1)⟩,
    ⟨some 99, none, .ld none (.tmp 98)⟩,
    ⟨some 100, none, .len (.tmp 99)⟩,
    ⟨some 101, none, .mv (.val (.int .i64 0))⟩] [] [1, 99, 100, 101])
  (.blk 4 (.loop (.trim (.seq
  (.reg [⟨some 102, none, .bin .lss (.tmp 101) (.tmp 100)⟩] [] [1, 99, 100, 101, 102])
  (.seq
  (.cond (.tmp 102)
  (.skip)
  (.ext 4))
  (.seq
  (.blk 5 (.seq
  (.reg [⟨some 103, none, .mv (.tmp 101)⟩,
    ⟨some 104, none, .iaS 5 (.tmp 99) (.tmp 101)⟩,
    ⟨some 105, none, .ld (some 5) (.tmp 104)⟩,
    ⟨some 9, none, .zer 47 (.agg [(.int .i64 0), (.int .i64 0), (.int .i64 0), (.int .i64 0), (.int .i64 0)])⟩,
    ⟨some 8, none, .mv (.tmp 103)⟩,
    ⟨none, none, .st 5 (.tmp 9) (.tmp 105)⟩] [] [1, 8, 9, 99, 100, 101])
  (.seq
  (.reg [⟨some 106, none, .faddr 2 (.tmp 1)⟩,
    ⟨some 107, none, .ld none (.tmp 106)⟩,
    ⟨some 108, none, .mv (.tmp 8)⟩,
    ⟨some 109, none, .slc 5 (.tmp 107) none (some (.tmp 108)) none⟩,
    ⟨some 110, none, .len (.tmp 109)⟩,
    ⟨some 111, none, .mv (.val (.int .i64 0))⟩] [] [1, 9, 99, 100, 101, 109, 110, 111])
  (.blk 6 (.loop (.trim (.seq
  (.reg [⟨some 112, none, .bin .lss (.tmp 111) (.tmp 110)⟩] [] [1, 9, 99, 100, 101, 109, 110, 111, 112])
  (.seq
  (.cond (.tmp 112)
  (.skip)
  (.ext 6))
  (.seq
  (.blk 7 (.seq
  (.reg [⟨some 113, none, .iaS 5 (.tmp 109) (.tmp 111)⟩,
    ⟨some 114, none, .ld (some 5) (.tmp 113)⟩,
    ⟨some 11, none, .zer 47 (.agg [(.int .i64 0), (.int .i64 0), (.int .i64 0), (.int .i64 0), (.int .i64 0)])⟩,
    ⟨none, none, .st 5 (.tmp 11) (.tmp 114)⟩] [] [1, 9, 11, 99, 100, 101, 109, 110, 111])
  (.seq
  (.reg [⟨some 115, none, .faddr 0 (.tmp 9)⟩,
    ⟨some 116, none, .ld none (.tmp 115)⟩,
    ⟨some 117, none, .bin .geq (.tmp 116) (.val (.int .i64 0))⟩,
    ⟨some 118, none, .mv (.tmp 117)⟩,
    ⟨some 119, (some (118, true)), .faddr 0 (.tmp 9)⟩,
    ⟨some 120, (some (118, true)), .ld none (.tmp 119)⟩,
    ⟨some 121, (some (118, true)), .faddr 0 (.tmp 11)⟩,
    ⟨some 122, (some (118, true)), .ld none (.tmp 121)⟩,
    ⟨some 123, (some (118, true)), .bin .eql (.tmp 120) (.tmp 122)⟩,
    ⟨some 124, none, .pick (.tmp 118) (.tmp 123) (.val (.bool false))⟩,
    ⟨some 125, none, .mv (.tmp 124)⟩,
    ⟨some 126, (some (125, true)), .faddr 0 (.tmp 1)⟩,
    ⟨some 127, (some (125, true)), .ld (some 2) (.tmp 126)⟩,
    ⟨some 128, (some (125, true)), .faddr 0 (.tmp 9)⟩,
    ⟨some 129, (some (125, true)), .ld none (.tmp 128)⟩,
    ⟨some 130, (some (125, true)), .call 36 .pure [(.tmp 127), (.tmp 129)]⟩,
    ⟨some 131, (some (125, true)), .inv (.tmp 130) "hinterland/air.many" .pure []⟩,
    ⟨some 132, (some (125, true)), .un .not (.tmp 131)⟩,
    ⟨some 133, none, .pick (.tmp 125) (.tmp 132) (.val (.bool false))⟩] [] [1, 9, 99, 100, 101, 109, 110, 111, 133])
  (.cond (.tmp 133)
  (.seq
  (.reg [⟨some 2, none, .mv (.val (.int .i64 7))⟩] [] [2])
  (.ret))
  (.skip)))))
  (.reg [⟨some 134, none, .bin .add (.tmp 111) (.val (.int .i64 1))⟩,
    ⟨some 111, none, .mv (.tmp 134)⟩] [] [1, 9, 99, 100, 101, 109, 110, 111]))))))))))
  (.reg [⟨some 135, none, .bin .add (.tmp 101) (.val (.int .i64 1))⟩,
    ⟨some 101, none, .mv (.tmp 135)⟩] [] [1, 99, 100, 101]))))))))
  (.seq
  (.reg [⟨some 2, none, .mv (.val (.int .i64 0))⟩] [] [2])
  (.ret))))))))⟩
theorem pf17_ok : fnOk Try.prog 17 pf17 = true := by kernel_rfl

/-- hinterland/hinterlandref18.Validate -/
def pf16 : PFn := ⟨86, 1, [.tmp 2], .seq
  (.reg [⟨some 1, none, .boxp 24 (.tmp 0)⟩,
    ⟨some 2, none, .mv (.val (.int .i64 0))⟩] [] [1])
  (.seq
  (.seq
  (.reg [⟨some 10, none, .faddr 0 (.tmp 1)⟩,
    ⟨some 11, none, .ld none (.tmp 10)⟩,
    ⟨some 12, none, .len (.tmp 11)⟩,
    ⟨some 13, none, .bin .gtr (.tmp 12) (.val (.int .i64 40))⟩] [] [1, 13])
  (.cond (.tmp 13)
  (.seq
  (.reg [⟨some 2, none, .mv (.val (.int .i64 4))⟩] [] [2])
  (.ret))
  (.skip)))
  (.seq
  (.seq
  (.reg [⟨some 14, none, .faddr 0 (.tmp 1)⟩,
    ⟨some 15, none, .ld none (.tmp 14)⟩,
    ⟨some 16, none, .len (.tmp 15)⟩,
    ⟨some 17, none, .mv (.val (.int .i64 0))⟩] [] [1, 15, 16, 17])
  (.blk 0 (.loop (.trim (.seq
  (.reg [⟨some 18, none, .bin .lss (.tmp 17) (.tmp 16)⟩] [] [1, 15, 16, 17, 18])
  (.seq
  (.cond (.tmp 18)
  (.skip)
  (.ext 0))
  (.seq
  (.blk 1 (.seq
  (.reg [⟨some 19, none, .iaS 2 (.tmp 15) (.tmp 17)⟩,
    ⟨some 20, none, .ld (some 2) (.tmp 19)⟩,
    ⟨some 4, none, .zer 58 (.agg [(.int .i64 0), (.list .nil 1 [])])⟩,
    ⟨none, none, .st 2 (.tmp 4) (.tmp 20)⟩] [] [1, 4, 15, 16, 17])
  (.seq
  (.seq
  (.reg [⟨some 21, none, .faddr 0 (.tmp 4)⟩,
    ⟨some 22, none, .ld none (.tmp 21)⟩,
    ⟨some 23, none, .call 35 .pure [(.tmp 22), (.val (.int .i64 0)), (.val (.int .i64 3))]⟩,
    ⟨some 24, none, .un .not (.tmp 23)⟩] [] [1, 4, 15, 16, 17, 24])
  (.cond (.tmp 24)
  (.seq
  (.reg [⟨some 2, none, .mv (.val (.int .i64 1))⟩] [] [2])
  (.ret))
  (.skip)))
  (.seq
  (.reg [⟨some 5, none, .mv (.val (.int .i64 1))⟩] [] [1, 4, 5, 15, 16, 17])
  (.blk 2 (.loop (.seq
  (.seq
  (.reg [⟨some 25, none, .mv (.tmp 5)⟩,
    ⟨some 26, none, .faddr 1 (.tmp 4)⟩,
    ⟨some 27, none, .ld none (.tmp 26)⟩,
    ⟨some 28, none, .len (.tmp 27)⟩,
    ⟨some 29, none, .bin .lss (.tmp 25) (.tmp 28)⟩] [] [1, 4, 5, 15, 16, 17, 29])
  (.cond (.tmp 29)
  (.skip)
  (.ext 2)))
  (.seq
  (.blk 3 (.seq
  (.reg [⟨some 32, none, .faddr 1 (.tmp 4)⟩,
    ⟨some 33, none, .ld none (.tmp 32)⟩,
    ⟨some 34, none, .mv (.tmp 5)⟩,
    ⟨some 35, none, .bin .sub (.tmp 34) (.val (.int .i64 1))⟩,
    ⟨some 36, none, .iaS 1 (.tmp 33) (.tmp 35)⟩,
    ⟨some 37, none, .ld none (.tmp 36)⟩,
    ⟨some 38, none, .faddr 1 (.tmp 4)⟩,
    ⟨some 39, none, .ld none (.tmp 38)⟩,
    ⟨some 40, none, .mv (.tmp 5)⟩,
    ⟨some 41, none, .iaS 1 (.tmp 39) (.tmp 40)⟩,
    ⟨some 42, none, .ld none (.tmp 41)⟩,
    ⟨some 43, none, .bin .geq (.tmp 37) (.tmp 42)⟩] [] [1, 4, 5, 15, 16, 17, 43])
  (.cond (.tmp 43)
  (.seq
  (.reg [⟨some 2, none, .mv (.val (.int .i64 1))⟩] [] [2])
  (.ret))
  (.skip))))
  (.reg [⟨some 30, none, .mv (.tmp 5)⟩,
    ⟨some 31, none, .bin .add (.tmp 30) (.val (.int .i64 1))⟩,
    ⟨some 5, none, .mv (.tmp 31)⟩] [] [1, 4, 5, 15, 16, 17])))))))))
  (.reg [⟨some 44, none, .bin .add (.tmp 17) (.val (.int .i64 1))⟩,
    ⟨some 17, none, .mv (.tmp 44)⟩] [] [1, 15, 16, 17]))))))))
  (.seq
  (.seq
  (.reg [⟨some 45, none, .faddr 0 (.tmp 1)⟩,
    ⟨some 46, none, .ld none (.tmp 45)⟩,
    ⟨some 47, none, .len (.tmp 46)⟩,
    ⟨some 48, none, .mv (.val (.int .i64 0))⟩] [] [1, 46, 47, 48])
  (.blk 4 (.loop (.trim (.seq
  (.reg [⟨some 49, none, .bin .lss (.tmp 48) (.tmp 47)⟩] [] [1, 46, 47, 48, 49])
  (.seq
  (.cond (.tmp 49)
  (.skip)
  (.ext 4))
  (.seq
  (.blk 5 (.seq
  (.reg [⟨some 50, none, .iaS 2 (.tmp 46) (.tmp 48)⟩,
    ⟨some 51, none, .ld (some 2) (.tmp 50)⟩,
    ⟨some 7, none, .zer 58 (.agg [(.int .i64 0), (.list .nil 1 [])])⟩,
    ⟨none, none, .st 2 (.tmp 7) (.tmp 51)⟩] [] [1, 7, 46, 47, 48])
  (.seq
  (.reg [⟨some 52, none, .faddr 1 (.tmp 7)⟩,
    ⟨some 53, none, .ld none (.tmp 52)⟩,
    ⟨some 54, none, .len (.tmp 53)⟩,
    ⟨some 55, none, .mv (.val (.int .i64 0))⟩] [] [1, 46, 47, 48, 53, 54, 55])
  (.blk 6 (.loop (.seq
  (.reg [⟨some 56, none, .bin .lss (.tmp 55) (.tmp 54)⟩] [] [1, 46, 47, 48, 53, 54, 55, 56])
  (.seq
  (.cond (.tmp 56)
  (.skip)
  (.ext 6))
  (.seq
  (.blk 7 (.seq
  (.reg [⟨some 57, none, .iaS 1 (.tmp 53) (.tmp 55)⟩,
    ⟨some 58, none, .ld none (.tmp 57)⟩,
    ⟨some 9, none, .mv (.tmp 58)⟩] [] [1, 9, 46, 47, 48, 53, 54, 55])
  (.seq
  (.reg [⟨some 59, none, .mv (.tmp 9)⟩,
    ⟨some 60, none, .faddr 0 (.tmp 1)⟩,
    ⟨some 61, none, .ld none (.tmp 60)⟩,
    ⟨some 62, none, .len (.tmp 61)⟩,
    ⟨some 63, none, .bin .sub (.tmp 62) (.val (.int .i64 1))⟩,
    ⟨some 64, none, .call 35 .pure [(.tmp 59), (.val (.int .i64 0)), (.tmp 63)]⟩,
    ⟨some 65, none, .un .not (.tmp 64)⟩] [] [1, 46, 47, 48, 53, 54, 55, 65])
  (.cond (.tmp 65)
  (.seq
  (.reg [⟨some 2, none, .mv (.val (.int .i64 2))⟩] [] [2])
  (.ret))
  (.skip)))))
  (.reg [⟨some 66, none, .bin .add (.tmp 55) (.val (.int .i64 1))⟩,
    ⟨some 55, none, .mv (.tmp 66)⟩] [] [1, 46, 47, 48, 53, 54, 55])))))))))
  (.reg [⟨some 67, none, .bin .add (.tmp 48) (.val (.int .i64 1))⟩,
    ⟨some 48, none, .mv (.tmp 67)⟩] [] [1, 46, 47, 48]))))))))
  (.seq
  (.seq
  (.reg [⟨some 68, none, .faddr 1 (.tmp 1)⟩,
    ⟨some 69, none, .ld none (.tmp 68)⟩,
    ⟨some 70, none, .faddr 0 (.tmp 1)⟩,
    ⟨some 71, none, .ld none (.tmp 70)⟩,
    ⟨some 72, none, .len (.tmp 71)⟩,
    ⟨some 73, none, .bin .sub (.tmp 72) (.val (.int .i64 1))⟩,
    ⟨some 74, none, .call 35 .pure [(.tmp 69), (.val (.int .i64 0)), (.tmp 73)]⟩,
    ⟨some 75, none, .un .not (.tmp 74)⟩,
    ⟨some 76, none, .mv (.tmp 75)⟩,
    ⟨some 77, (some (76, false)), .faddr 0 (.tmp 1)⟩,
    ⟨some 78, (some (76, false)), .ld none (.tmp 77)⟩,
    ⟨some 79, (some (76, false)), .faddr 1 (.tmp 1)⟩,
    ⟨some 80, (some (76, false)), .ld none (.tmp 79)⟩,
    ⟨some 81, (some (76, false)), .iaS 2 (.tmp 78) (.tmp 80)⟩,
    ⟨some 82, (some (76, false)), .faddr 0 (.tmp 81)⟩,
    ⟨some 83, (some (76, false)), .ld none (.tmp 82)⟩,
    ⟨some 84, (some (76, false)), .bin .neq (.tmp 83) (.val (.int .i64 0))⟩,
    ⟨some 85, none, .pick (.tmp 76) (.val (.bool true)) (.tmp 84)⟩] [] [85])
  (.cond (.tmp 85)
  (.seq
  (.reg [⟨some 2, none, .mv (.val (.int .i64 2))⟩] [] [2])
  (.ret))
  (.skip)))
  (.seq
  (.reg [⟨some 2, none, .mv (.val (.int .i64 0))⟩] [] [2])
  (.ret))))))⟩
theorem pf16_ok : fnOk Try.prog 16 pf16 = true := by kernel_rfl

/-- hinterland/air.Validate -/
def pf15 : PFn := ⟨95, 1, [.tmp 2], .seq
  (.reg [⟨some 1, none, .boxp 24 (.tmp 0)⟩,
    ⟨some 2, none, .mv (.val (.int .i64 0))⟩] [] [1])
  (.seq
  (.seq
  (.reg [⟨some 10, none, .faddr 0 (.tmp 1)⟩,
    ⟨some 11, none, .ld none (.tmp 10)⟩,
    ⟨some 12, none, .len (.tmp 11)⟩,
    ⟨some 13, none, .bin .gtr (.tmp 12) (.val (.int .i64 40))⟩] [] [1, 13])
  (.cond (.tmp 13)
  (.seq
  (.reg [⟨some 2, none, .mv (.val (.int .i64 4))⟩] [] [2])
  (.ret))
  (.skip)))
  (.seq
  (.seq
  (.reg [⟨some 14, none, .faddr 0 (.tmp 1)⟩,
    ⟨some 15, none, .ld none (.tmp 14)⟩,
    ⟨some 16, none, .len (.tmp 15)⟩,
    ⟨some 17, none, .mv (.val (.int .i64 0))⟩] [] [1, 15, 16, 17])
  (.blk 0 (.loop (.trim (.seq
  (.reg [⟨some 18, none, .bin .lss (.tmp 17) (.tmp 16)⟩] [] [1, 15, 16, 17, 18])
  (.seq
  (.cond (.tmp 18)
  (.skip)
  (.ext 0))
  (.seq
  (.blk 1 (.seq
  (.reg [⟨some 19, none, .iaS 2 (.tmp 15) (.tmp 17)⟩,
    ⟨some 20, none, .ld (some 2) (.tmp 19)⟩,
    ⟨some 4, none, .zer 58 (.agg [(.int .i64 0), (.list .nil 1 [])])⟩,
    ⟨none, none, .st 2 (.tmp 4) (.tmp 20)⟩] [] [1, 4, 15, 16, 17])
  (.seq
  (.seq
  (.reg [⟨some 21, none, .faddr 0 (.tmp 4)⟩,
    ⟨some 22, none, .ld none (.tmp 21)⟩,
    ⟨some 23, none, .bin .lss (.tmp 22) (.val (.int .i64 0))⟩,
    ⟨some 24, none, .mv (.tmp 23)⟩,
    ⟨some 25, (some (24, false)), .faddr 0 (.tmp 4)⟩,
    ⟨some 26, (some (24, false)), .ld none (.tmp 25)⟩,
    ⟨some 27, (some (24, false)), .bin .gtr (.tmp 26) (.val (.int .i64 3))⟩,
    ⟨some 28, none, .pick (.tmp 24) (.val (.bool true)) (.tmp 27)⟩] [] [1, 4, 15, 16, 17, 28])
  (.cond (.tmp 28)
  (.seq
  (.reg [⟨some 2, none, .mv (.val (.int .i64 1))⟩] [] [2])
  (.ret))
  (.skip)))
  (.seq
  (.reg [⟨some 5, none, .mv (.val (.int .i64 1))⟩] [] [1, 4, 5, 15, 16, 17])
  (.blk 2 (.loop (.seq
  (.seq
  (.reg [⟨some 29, none, .mv (.tmp 5)⟩,
    ⟨some 30, none, .faddr 1 (.tmp 4)⟩,
    ⟨some 31, none, .ld none (.tmp 30)⟩,
    ⟨some 32, none, .len (.tmp 31)⟩,
    ⟨some 33, none, .bin .lss (.tmp 29) (.tmp 32)⟩] [] [1, 4, 5, 15, 16, 17, 33])
  (.cond (.tmp 33)
  (.skip)
  (.ext 2)))
  (.seq
  (.blk 3 (.seq
  (.reg [⟨some 36, none, .faddr 1 (.tmp 4)⟩,
    ⟨some 37, none, .ld none (.tmp 36)⟩,
    ⟨some 38, none, .mv (.tmp 5)⟩,
    ⟨some 39, none, .iaS 1 (.tmp 37) (.tmp 38)⟩,
    ⟨some 40, none, .ld none (.tmp 39)⟩,
    ⟨some 41, none, .faddr 1 (.tmp 4)⟩,
    ⟨some 42, none, .ld none (.tmp 41)⟩,
    ⟨some 43, none, .mv (.tmp 5)⟩,
    ⟨some 44, none, .bin .sub (.tmp 43) (.val (.int .i64 1))⟩,
    ⟨some 45, none, .iaS 1 (.tmp 42) (.tmp 44)⟩,
    ⟨some 46, none, .ld none (.tmp 45)⟩,
    ⟨some 47, none, .bin .leq (.tmp 40) (.tmp 46)⟩] [] [1, 4, 5, 15, 16, 17, 47])
  (.cond (.tmp 47)
  (.seq
  (.reg [⟨some 2, none, .mv (.val (.int .i64 1))⟩] [] [2])
  (.ret))
  (.skip))))
  (.reg [⟨some 34, none, .mv (.tmp 5)⟩,
    ⟨some 35, none, .bin .add (.tmp 34) (.val (.int .i64 1))⟩,
    ⟨some 5, none, .mv (.tmp 35)⟩] [] [1, 4, 5, 15, 16, 17])))))))))
  (.reg [⟨some 48, none, .bin .add (.tmp 17) (.val (.int .i64 1))⟩,
    ⟨some 17, none, .mv (.tmp 48)⟩] [] [1, 15, 16, 17]))))))))
  (.seq
  (.seq
  (.reg [⟨some 49, none, .faddr 0 (.tmp 1)⟩,
    ⟨some 50, none, .ld none (.tmp 49)⟩,
    ⟨some 51, none, .len (.tmp 50)⟩,
    ⟨some 52, none, .mv (.val (.int .i64 0))⟩] [] [1, 50, 51, 52])
  (.blk 4 (.loop (.trim (.seq
  (.reg [⟨some 53, none, .bin .lss (.tmp 52) (.tmp 51)⟩] [] [1, 50, 51, 52, 53])
  (.seq
  (.cond (.tmp 53)
  (.skip)
  (.ext 4))
  (.seq
  (.blk 5 (.seq
  (.reg [⟨some 54, none, .iaS 2 (.tmp 50) (.tmp 52)⟩,
    ⟨some 55, none, .ld (some 2) (.tmp 54)⟩,
    ⟨some 7, none, .zer 58 (.agg [(.int .i64 0), (.list .nil 1 [])])⟩,
    ⟨none, none, .st 2 (.tmp 7) (.tmp 55)⟩] [] [1, 7, 50, 51, 52])
  (.seq
  (.reg [⟨some 56, none, .faddr 1 (.tmp 7)⟩,
    ⟨some 57, none, .ld none (.tmp 56)⟩,
    ⟨some 58, none, .len (.tmp 57)⟩,
    ⟨some 59, none, .mv (.val (.int .i64 0))⟩] [] [1, 50, 51, 52, 57, 58, 59])
  (.blk 6 (.loop (.seq
  (.reg [⟨some 60, none, .bin .lss (.tmp 59) (.tmp 58)⟩] [] [1, 50, 51, 52, 57, 58, 59, 60])
  (.seq
  (.cond (.tmp 60)
  (.skip)
  (.ext 6))
  (.seq
  (.blk 7 (.seq
  (.reg [⟨some 61, none, .iaS 1 (.tmp 57) (.tmp 59)⟩,
    ⟨some 62, none, .ld none (.tmp 61)⟩,
    ⟨some 9, none, .mv (.tmp 62)⟩] [] [1, 9, 50, 51, 52, 57, 58, 59])
  (.seq
  (.reg [⟨some 63, none, .mv (.tmp 9)⟩,
    ⟨some 64, none, .bin .lss (.tmp 63) (.val (.int .i64 0))⟩,
    ⟨some 65, none, .mv (.tmp 64)⟩,
    ⟨some 66, (some (65, false)), .mv (.tmp 9)⟩,
    ⟨some 67, (some (65, false)), .faddr 0 (.tmp 1)⟩,
    ⟨some 68, (some (65, false)), .ld none (.tmp 67)⟩,
    ⟨some 69, (some (65, false)), .len (.tmp 68)⟩,
    ⟨some 70, (some (65, false)), .bin .geq (.tmp 66) (.tmp 69)⟩,
    ⟨some 71, none, .pick (.tmp 65) (.val (.bool true)) (.tmp 70)⟩] [] [1, 50, 51, 52, 57, 58, 59, 71])
  (.cond (.tmp 71)
  (.seq
  (.reg [⟨some 2, none, .mv (.val (.int .i64 2))⟩] [] [2])
  (.ret))
  (.skip)))))
  (.reg [⟨some 72, none, .bin .add (.tmp 59) (.val (.int .i64 1))⟩,
    ⟨some 59, none, .mv (.tmp 72)⟩] [] [1, 50, 51, 52, 57, 58, 59])))))))))
  (.reg [⟨some 73, none, .bin .add (.tmp 52) (.val (.int .i64 1))⟩,
    ⟨some 52, none, .mv (.tmp 73)⟩] [] [1, 50, 51, 52]))))))))
  (.seq
  (.seq
  (.reg [⟨some 74, none, .faddr 1 (.tmp 1)⟩,
    ⟨some 75, none, .ld none (.tmp 74)⟩,
    ⟨some 76, none, .bin .lss (.tmp 75) (.val (.int .i64 0))⟩,
    ⟨some 77, none, .mv (.tmp 76)⟩,
    ⟨some 78, (some (77, false)), .faddr 1 (.tmp 1)⟩,
    ⟨some 79, (some (77, false)), .ld none (.tmp 78)⟩,
    ⟨some 80, (some (77, false)), .faddr 0 (.tmp 1)⟩,
    ⟨some 81, (some (77, false)), .ld none (.tmp 80)⟩,
    ⟨some 82, (some (77, false)), .len (.tmp 81)⟩,
    ⟨some 83, (some (77, false)), .bin .geq (.tmp 79) (.tmp 82)⟩,
    ⟨some 84, none, .pick (.tmp 77) (.val (.bool true)) (.tmp 83)⟩,
    ⟨some 85, none, .mv (.tmp 84)⟩,
    ⟨some 86, (some (85, false)), .faddr 0 (.tmp 1)⟩,
    ⟨some 87, (some (85, false)), .ld none (.tmp 86)⟩,
    ⟨some 88, (some (85, false)), .faddr 1 (.tmp 1)⟩,
    ⟨some 89, (some (85, false)), .ld none (.tmp 88)⟩,
    ⟨some 90, (some (85, false)), .iaS 2 (.tmp 87) (.tmp 89)⟩,
    ⟨some 91, (some (85, false)), .faddr 0 (.tmp 90)⟩,
    ⟨some 92, (some (85, false)), .ld none (.tmp 91)⟩,
    ⟨some 93, (some (85, false)), .bin .neq (.tmp 92) (.val (.int .i64 0))⟩,
    ⟨some 94, none, .pick (.tmp 85) (.val (.bool true)) (.tmp 93)⟩] [] [94])
  (.cond (.tmp 94)
  (.seq
  (.reg [⟨some 2, none, .mv (.val (.int .i64 2))⟩] [] [2])
  (.ret))
  (.skip)))
  (.seq
  (.reg [⟨some 2, none, .mv (.val (.int .i64 0))⟩] [] [2])
  (.ret))))))⟩
theorem pf15_ok : fnOk Try.prog 15 pf15 = true := by kernel_rfl

/-- hinterland/hinterlandlaw18.known -/
def pf14 : PFn := ⟨72, 0, [.tmp 0], .seq
  (.reg [⟨some 0, none, .mv (.val (.bool false))⟩] [] [])
  (.seq
  (.reg [⟨some 9, none, .call 28 .pure [(.val (.int .i64 0))]⟩,
    ⟨some 8, none, .mv (.tmp 9)⟩,
    ⟨some 10, none, .ext 0 (.tmp 8)⟩,
    ⟨some 11, none, .ext 1 (.tmp 8)⟩,
    ⟨some 1, none, .zer 24 (.agg [(.list .nil 2 []), (.int .i64 0)])⟩,
    ⟨none, none, .st 2 (.tmp 1) (.tmp 10)⟩,
    ⟨some 2, none, .mv (.tmp 11)⟩] [] [1, 2])
  (.seq
  (.reg [⟨some 12, none, .ld (some 2) (.tmp 1)⟩,
    ⟨some 13, none, .bld [(.int .i64 0), (.int .i64 0), (.int .i64 0), (.int .i64 0), (.int .i64 0)] [(0, 1, (.val (.int .i64 (-1)))), (3, 1, (.val (.int .i64 1)))]⟩,
    ⟨some 14, none, .bsl 1 5 [(.int .i64 0), (.int .i64 0), (.int .i64 0), (.int .i64 0), (.int .i64 0)] [(0, 5, (.tmp 13))]⟩,
    ⟨some 15, none, .bld [(.list .nil 2 []), (.int .i64 0), (.list .nil 5 []), (.int .i64 0)] [(0, 2, (.tmp 12)), (2, 1, (.tmp 14))]⟩,
    ⟨some 3, none, .zer 31 (.agg [(.list .nil 2 []), (.int .i64 0), (.list .nil 5 []), (.int .i64 0)])⟩,
    ⟨none, none, .st 4 (.tmp 3) (.tmp 15)⟩] [] [1, 2, 3])
  (.seq
  (.reg [⟨some 17, none, .ld (some 4) (.tmp 3)⟩,
    ⟨some 18, none, .call 23 .pure [(.tmp 17), (.val (.int .i64 0))]⟩,
    ⟨some 16, none, .mv (.tmp 18)⟩,
    ⟨some 19, none, .ext 0 (.tmp 16)⟩,
    ⟨some 20, none, .ext 1 (.tmp 16)⟩,
    ⟨none, none, .st 4 (.tmp 3) (.tmp 19)⟩,
    ⟨some 4, none, .mv (.tmp 20)⟩] [] [1, 2, 3, 4])
  (.seq
  (.seq
  (.reg [⟨some 21, none, .mv (.tmp 2)⟩,
    ⟨some 22, none, .bin .neq (.tmp 21) (.val (.int .i64 0))⟩,
    ⟨some 23, none, .mv (.tmp 22)⟩,
    ⟨some 24, (some (23, false)), .mv (.tmp 4)⟩,
    ⟨some 25, (some (23, false)), .bin .neq (.tmp 24) (.val (.int .i64 0))⟩,
    ⟨some 26, none, .pick (.tmp 23) (.val (.bool true)) (.tmp 25)⟩,
    ⟨some 27, none, .mv (.tmp 26)⟩,
    ⟨some 28, (some (27, false)), .faddr 2 (.tmp 3)⟩,
    ⟨some 29, (some (27, false)), .ld none (.tmp 28)⟩,
    ⟨some 30, (some (27, false)), .len (.tmp 29)⟩,
    ⟨some 31, (some (27, false)), .bin .neq (.tmp 30) (.val (.int .i64 1))⟩,
    ⟨some 32, none, .pick (.tmp 27) (.val (.bool true)) (.tmp 31)⟩,
    ⟨some 33, none, .mv (.tmp 32)⟩,
    ⟨some 34, (some (33, false)), .faddr 0 (.tmp 1)⟩,
    ⟨some 35, (some (33, false)), .ld none (.tmp 34)⟩,
    ⟨some 36, (some (33, false)), .len (.tmp 35)⟩,
    ⟨some 37, (some (33, false)), .bin .neq (.tmp 36) (.val (.int .i64 3))⟩,
    ⟨some 38, none, .pick (.tmp 33) (.val (.bool true)) (.tmp 37)⟩] [] [3, 38])
  (.cond (.tmp 38)
  (.seq
  (.reg [⟨some 0, none, .mv (.val (.bool false))⟩] [] [0])
  (.ret))
  (.skip)))
  (.seq
  (.seq
  (.reg [⟨some 39, none, .mv (.val (.int .i64 0))⟩] [] [3, 39])
  (.blk 0 (.loop (.trim (.seq
  (.reg [⟨some 40, none, .bin .lss (.tmp 39) (.val (.int .i64 4))⟩] [] [3, 39, 40])
  (.seq
  (.cond (.tmp 40)
  (.skip)
  (.ext 0))
  (.seq
  (.blk 1 (.seq
  (.reg [⟨some 42, none, .ld (some 4) (.tmp 3)⟩,
    ⟨some 43, none, .call 19 .pure [(.tmp 42)]⟩,
    ⟨some 41, none, .mv (.tmp 43)⟩,
    ⟨some 44, none, .ext 0 (.tmp 41)⟩,
    ⟨some 45, none, .ext 1 (.tmp 41)⟩,
    ⟨some 46, none, .ext 2 (.tmp 41)⟩,
    ⟨some 5, none, .zer 31 (.agg [(.list .nil 2 []), (.int .i64 0), (.list .nil 5 []), (.int .i64 0)])⟩,
    ⟨none, none, .st 4 (.tmp 5) (.tmp 44)⟩,
    ⟨some 6, none, .mv (.tmp 45)⟩,
    ⟨some 7, none, .mv (.tmp 46)⟩] [] [3, 5, 6, 7, 39])
  (.seq
  (.seq
  (.reg [⟨some 47, none, .mv (.tmp 7)⟩,
    ⟨some 48, none, .bin .neq (.tmp 47) (.val (.int .i64 0))⟩,
    ⟨some 49, none, .mv (.tmp 48)⟩,
    ⟨some 50, (some (49, false)), .faddr 2 (.tmp 5)⟩,
    ⟨some 51, (some (49, false)), .ld none (.tmp 50)⟩,
    ⟨some 52, (some (49, false)), .len (.tmp 51)⟩,
    ⟨some 53, (some (49, false)), .bin .neq (.tmp 52) (.val (.int .i64 1))⟩,
    ⟨some 54, none, .pick (.tmp 49) (.val (.bool true)) (.tmp 53)⟩] [] [3, 5, 6, 39, 54])
  (.cond (.tmp 54)
  (.seq
  (.reg [⟨some 0, none, .mv (.val (.bool false))⟩] [] [0])
  (.ret))
  (.skip)))
  (.seq
  (.reg [⟨some 55, none, .ld (some 4) (.tmp 5)⟩,
    ⟨none, none, .st 4 (.tmp 3) (.tmp 55)⟩] [] [3, 6, 39])
  (.seq
  (.reg [⟨some 56, none, .mv (.tmp 6)⟩,
    ⟨some 57, none, .len (.tmp 56)⟩,
    ⟨some 58, none, .bin .eql (.tmp 57) (.val (.int .i64 1))⟩] [] [3, 6, 39, 58])
  (.cond (.tmp 58)
  (.seq
  (.reg [⟨some 59, none, .mv (.tmp 6)⟩,
    ⟨some 60, none, .iaS 1 (.tmp 59) (.val (.int .i64 0))⟩,
    ⟨some 61, none, .ld none (.tmp 60)⟩,
    ⟨some 62, none, .bin .eql (.tmp 61) (.val (.int .i64 0))⟩,
    ⟨some 63, none, .mv (.tmp 62)⟩,
    ⟨some 64, (some (63, true)), .faddr 2 (.tmp 3)⟩,
    ⟨some 65, (some (63, true)), .ld none (.tmp 64)⟩,
    ⟨some 66, (some (63, true)), .iaS 5 (.tmp 65) (.val (.int .i64 0))⟩,
    ⟨some 67, (some (63, true)), .faddr 0 (.tmp 66)⟩,
    ⟨some 68, (some (63, true)), .ld none (.tmp 67)⟩,
    ⟨some 69, (some (63, true)), .bin .eql (.tmp 68) (.val (.int .i64 2))⟩,
    ⟨some 70, none, .pick (.tmp 63) (.tmp 69) (.val (.bool false))⟩,
    ⟨some 0, none, .mv (.tmp 70)⟩] [] [0])
  (.ret))
  (.skip)))))))
  (.reg [⟨some 71, none, .bin .add (.tmp 39) (.val (.int .i64 1))⟩,
    ⟨some 39, none, .mv (.tmp 71)⟩] [] [3, 39]))))))))
  (.seq
  (.reg [⟨some 0, none, .mv (.val (.bool false))⟩] [] [0])
  (.ret)))))))⟩
theorem pf14_ok : fnOk Try.prog 14 pf14 = true := by kernel_rfl

/-- hinterland/hinterlandlaw18.large -/
def pf13 : PFn := ⟨21, 1, [.tmp 2], .seq
  (.reg [⟨some 1, none, .boxp 24 (.tmp 0)⟩,
    ⟨some 2, none, .mv (.val (.bool false))⟩] [] [1])
  (.seq
  (.seq
  (.reg [⟨some 5, none, .faddr 0 (.tmp 1)⟩,
    ⟨some 6, none, .ld none (.tmp 5)⟩,
    ⟨some 7, none, .len (.tmp 6)⟩,
    ⟨some 8, none, .mv (.val (.int .i64 0))⟩] [] [1, 6, 7, 8])
  (.blk 0 (.loop (.trim (.seq
  (.reg [⟨some 9, none, .bin .lss (.tmp 8) (.tmp 7)⟩] [] [1, 6, 7, 8, 9])
  (.seq
  (.cond (.tmp 9)
  (.skip)
  (.ext 0))
  (.seq
  (.blk 1 (.seq
  (.reg [⟨some 10, none, .iaS 2 (.tmp 6) (.tmp 8)⟩,
    ⟨some 11, none, .ld (some 2) (.tmp 10)⟩,
    ⟨some 4, none, .zer 58 (.agg [(.int .i64 0), (.list .nil 1 [])])⟩,
    ⟨none, none, .st 2 (.tmp 4) (.tmp 11)⟩] [] [1, 4, 6, 7, 8])
  (.seq
  (.reg [⟨some 12, none, .faddr 1 (.tmp 4)⟩,
    ⟨some 13, none, .ld none (.tmp 12)⟩,
    ⟨some 14, none, .len (.tmp 13)⟩,
    ⟨some 15, none, .bin .gtr (.tmp 14) (.val (.int .i64 400))⟩] [] [1, 6, 7, 8, 15])
  (.cond (.tmp 15)
  (.seq
  (.reg [⟨some 2, none, .mv (.val (.bool true))⟩] [] [2])
  (.ret))
  (.skip)))))
  (.reg [⟨some 16, none, .bin .add (.tmp 8) (.val (.int .i64 1))⟩,
    ⟨some 8, none, .mv (.tmp 16)⟩] [] [1, 6, 7, 8]))))))))
  (.seq
  (.reg [⟨some 17, none, .faddr 0 (.tmp 1)⟩,
    ⟨some 18, none, .ld none (.tmp 17)⟩,
    ⟨some 19, none, .len (.tmp 18)⟩,
    ⟨some 20, none, .bin .gtr (.tmp 19) (.val (.int .i64 400))⟩,
    ⟨some 2, none, .mv (.tmp 20)⟩] [] [2])
  (.ret)))⟩
theorem pf13_ok : fnOk Try.prog 13 pf13 = true := by kernel_rfl

/-- hinterland/hinterlandlaw18.AirOpens -/
def pf11 : PFn := ⟨31, 1, [.tmp 2], .seq
  (.reg [⟨some 1, none, .boxp 24 (.tmp 0)⟩,
    ⟨some 2, none, .mv (.val (.bool false))⟩] [] [1])
  (.seq
  (.seq
  (.reg [⟨some 7, none, .ld (some 2) (.tmp 1)⟩,
    ⟨some 8, none, .call 13 .pure [(.tmp 7)]⟩] [] [1, 8])
  (.cond (.tmp 8)
  (.seq
  (.reg [⟨some 9, none, .call 14 .pure []⟩,
    ⟨some 2, none, .mv (.tmp 9)⟩] [] [2])
  (.ret))
  (.skip)))
  (.seq
  (.reg [⟨some 11, none, .ld (some 2) (.tmp 1)⟩,
    ⟨some 12, none, .call 31 .pure [(.tmp 11)]⟩,
    ⟨some 10, none, .mv (.tmp 12)⟩,
    ⟨some 13, none, .ext 0 (.tmp 10)⟩,
    ⟨some 14, none, .ext 1 (.tmp 10)⟩,
    ⟨some 3, none, .mv (.tmp 13)⟩,
    ⟨some 4, none, .mv (.tmp 14)⟩] [] [1, 3, 4])
  (.seq
  (.reg [⟨some 16, none, .ld (some 2) (.tmp 1)⟩,
    ⟨some 17, none, .call 32 .pure [(.tmp 16)]⟩,
    ⟨some 15, none, .mv (.tmp 17)⟩,
    ⟨some 18, none, .ext 0 (.tmp 15)⟩,
    ⟨some 19, none, .ext 1 (.tmp 15)⟩,
    ⟨some 5, none, .mv (.tmp 18)⟩,
    ⟨some 6, none, .mv (.tmp 19)⟩] [] [3, 4, 5, 6])
  (.seq
  (.reg [⟨some 20, none, .mv (.tmp 3)⟩,
    ⟨some 21, none, .mv (.tmp 5)⟩,
    ⟨some 22, none, .eqb false (.tmp 20) (.tmp 21)⟩,
    ⟨some 23, none, .mv (.tmp 22)⟩,
    ⟨some 24, (some (23, true)), .mv (.tmp 4)⟩,
    ⟨some 25, (some (23, true)), .mv (.tmp 6)⟩,
    ⟨some 26, (some (23, true)), .bin .eql (.tmp 24) (.tmp 25)⟩,
    ⟨some 27, none, .pick (.tmp 23) (.tmp 26) (.val (.bool false))⟩,
    ⟨some 28, none, .mv (.tmp 27)⟩,
    ⟨some 29, (some (28, true)), .call 14 .pure []⟩,
    ⟨some 30, none, .pick (.tmp 28) (.tmp 29) (.val (.bool false))⟩,
    ⟨some 2, none, .mv (.tmp 30)⟩] [] [2])
  (.ret)))))⟩
theorem pf11_ok : fnOk Try.prog 11 pf11 = true := by kernel_rfl

/-- hinterland/hinterlandlaw18.AirPlans -/
def pf10 : PFn := ⟨45, 1, [.tmp 2], .seq
  (.reg [⟨some 2, none, .mv (.val (.bool false))⟩] [] [0])
  (.seq
  (.reg [⟨some 10, none, .mv (.tmp 0)⟩,
    ⟨some 11, none, .call 28 .pure [(.tmp 10)]⟩,
    ⟨some 9, none, .mv (.tmp 11)⟩,
    ⟨some 12, none, .ext 0 (.tmp 9)⟩,
    ⟨some 13, none, .ext 1 (.tmp 9)⟩,
    ⟨some 3, none, .zer 24 (.agg [(.list .nil 2 []), (.int .i64 0)])⟩,
    ⟨none, none, .st 2 (.tmp 3) (.tmp 12)⟩,
    ⟨some 4, none, .mv (.tmp 13)⟩] [] [0, 3, 4])
  (.seq
  (.reg [⟨some 15, none, .mv (.tmp 0)⟩,
    ⟨some 16, none, .call 29 .pure [(.tmp 15)]⟩,
    ⟨some 14, none, .mv (.tmp 16)⟩,
    ⟨some 17, none, .ext 0 (.tmp 14)⟩,
    ⟨some 18, none, .ext 1 (.tmp 14)⟩,
    ⟨some 5, none, .zer 24 (.agg [(.list .nil 2 []), (.int .i64 0)])⟩,
    ⟨none, none, .st 2 (.tmp 5) (.tmp 17)⟩,
    ⟨some 6, none, .mv (.tmp 18)⟩] [] [3, 4, 5, 6])
  (.seq
  (.seq
  (.reg [⟨some 19, none, .mv (.tmp 4)⟩,
    ⟨some 20, none, .mv (.tmp 6)⟩,
    ⟨some 21, none, .bin .neq (.tmp 19) (.tmp 20)⟩,
    ⟨some 22, none, .mv (.tmp 21)⟩,
    ⟨some 23, (some (22, false)), .ld (some 2) (.tmp 3)⟩,
    ⟨some 24, (some (22, false)), .ld (some 2) (.tmp 5)⟩,
    ⟨some 25, (some (22, false)), .call 30 .pure [(.tmp 23), (.tmp 24)]⟩,
    ⟨some 26, (some (22, false)), .un .not (.tmp 25)⟩,
    ⟨some 27, none, .pick (.tmp 22) (.val (.bool true)) (.tmp 26)⟩] [] [3, 4, 27])
  (.cond (.tmp 27)
  (.seq
  (.reg [⟨some 2, none, .mv (.val (.bool false))⟩] [] [2])
  (.ret))
  (.skip)))
  (.seq
  (.reg [⟨some 29, none, .ld (some 2) (.tmp 3)⟩,
    ⟨some 30, none, .call 31 .pure [(.tmp 29)]⟩,
    ⟨some 28, none, .mv (.tmp 30)⟩,
    ⟨some 31, none, .ext 0 (.tmp 28)⟩,
    ⟨some 32, none, .ext 1 (.tmp 28)⟩,
    ⟨some 7, none, .mv (.tmp 31)⟩,
    ⟨some 8, none, .mv (.tmp 32)⟩] [] [4, 7, 8])
  (.seq
  (.reg [⟨some 33, none, .mv (.tmp 4)⟩,
    ⟨some 34, none, .bin .neq (.tmp 33) (.val (.int .i64 0))⟩,
    ⟨some 35, none, .mv (.tmp 34)⟩,
    ⟨some 36, (some (35, false)), .mv (.tmp 7)⟩,
    ⟨some 37, (some (35, false)), .mv (.tmp 36)⟩,
    ⟨some 38, (some (37, true)), .mv (.tmp 8)⟩,
    ⟨some 39, (some (37, true)), .bin .eql (.tmp 38) (.val (.int .i64 0))⟩,
    ⟨some 40, (some (35, false)), .pick (.tmp 37) (.tmp 39) (.val (.bool false))⟩,
    ⟨some 41, none, .pick (.tmp 35) (.val (.bool true)) (.tmp 40)⟩,
    ⟨some 42, none, .mv (.tmp 41)⟩,
    ⟨some 43, (some (42, true)), .call 14 .pure []⟩,
    ⟨some 44, none, .pick (.tmp 42) (.tmp 43) (.val (.bool false))⟩,
    ⟨some 2, none, .mv (.tmp 44)⟩] [] [2])
  (.ret))))))⟩
theorem pf10_ok : fnOk Try.prog 10 pf10 = true := by kernel_rfl

/-- hinterland/hinterlandlaw18.AirComesIn -/
def pf9 : PFn := ⟨114, 2, [.tmp 4], .seq
  (.reg [⟨some 2, none, .boxp 24 (.tmp 0)⟩,
    ⟨some 4, none, .mv (.val (.bool false))⟩] [] [1, 2])
  (.seq
  (.seq
  (.reg [⟨some 13, none, .ld (some 2) (.tmp 2)⟩,
    ⟨some 14, none, .call 13 .pure [(.tmp 13)]⟩,
    ⟨some 15, none, .mv (.tmp 14)⟩,
    ⟨some 16, (some (15, false)), .mv (.tmp 1)⟩,
    ⟨some 17, (some (15, false)), .bin .lss (.tmp 16) (.val (.int .i64 1))⟩,
    ⟨some 18, none, .pick (.tmp 15) (.val (.bool true)) (.tmp 17)⟩,
    ⟨some 19, none, .mv (.tmp 18)⟩,
    ⟨some 20, (some (19, false)), .mv (.tmp 1)⟩,
    ⟨some 21, (some (19, false)), .bin .gtr (.tmp 20) (.val (.int .i64 50))⟩,
    ⟨some 22, none, .pick (.tmp 19) (.val (.bool true)) (.tmp 21)⟩] [] [1, 2, 22])
  (.cond (.tmp 22)
  (.seq
  (.reg [⟨some 23, none, .call 14 .pure []⟩,
    ⟨some 4, none, .mv (.tmp 23)⟩] [] [4])
  (.ret))
  (.skip)))
  (.seq
  (.reg [⟨some 25, none, .ld (some 2) (.tmp 2)⟩,
    ⟨some 26, none, .faddr 1 (.tmp 2)⟩,
    ⟨some 27, none, .ld none (.tmp 26)⟩,
    ⟨some 28, none, .call 25 .pure [(.tmp 25), (.tmp 27), (.val (.int .i64 1))]⟩,
    ⟨some 24, none, .mv (.tmp 28)⟩,
    ⟨some 29, none, .ext 0 (.tmp 24)⟩,
    ⟨some 30, none, .ext 1 (.tmp 24)⟩,
    ⟨some 31, none, .ext 2 (.tmp 24)⟩,
    ⟨some 5, none, .mv (.tmp 29)⟩,
    ⟨some 6, none, .mv (.tmp 30)⟩,
    ⟨some 7, none, .mv (.tmp 31)⟩] [] [1, 2, 5, 6, 7])
  (.seq
  (.reg [⟨some 33, none, .ld (some 2) (.tmp 2)⟩,
    ⟨some 34, none, .mv (.tmp 1)⟩,
    ⟨some 35, none, .bld [(.int .i64 0), (.int .i64 0), (.int .i64 0), (.int .i64 0), (.int .i64 0)] [(0, 1, (.val (.int .i64 (-1)))), (3, 1, (.tmp 34))]⟩,
    ⟨some 36, none, .bsl 1 5 [(.int .i64 0), (.int .i64 0), (.int .i64 0), (.int .i64 0), (.int .i64 0)] [(0, 5, (.tmp 35))]⟩,
    ⟨some 37, none, .bld [(.list .nil 2 []), (.int .i64 0), (.list .nil 5 []), (.int .i64 0)] [(0, 2, (.tmp 33)), (2, 1, (.tmp 36))]⟩,
    ⟨some 38, none, .call 23 .pure [(.tmp 37), (.val (.int .i64 0))]⟩,
    ⟨some 32, none, .mv (.tmp 38)⟩,
    ⟨some 39, none, .ext 0 (.tmp 32)⟩,
    ⟨some 40, none, .ext 1 (.tmp 32)⟩,
    ⟨some 8, none, .zer 31 (.agg [(.list .nil 2 []), (.int .i64 0), (.list .nil 5 []), (.int .i64 0)])⟩,
    ⟨none, none, .st 4 (.tmp 8) (.tmp 39)⟩,
    ⟨some 9, none, .mv (.tmp 40)⟩] [] [1, 2, 5, 6, 7, 8, 9])
  (.seq
  (.seq
  (.reg [⟨some 41, none, .mv (.tmp 7)⟩,
    ⟨some 42, none, .bin .neq (.tmp 41) (.val (.int .i64 0))⟩] [] [1, 2, 5, 6, 8, 9, 42])
  (.cond (.tmp 42)
  (.seq
  (.reg [⟨some 43, none, .call 14 .pure []⟩,
    ⟨some 4, none, .mv (.tmp 43)⟩] [] [4])
  (.ret))
  (.skip)))
  (.seq
  (.seq
  (.reg [⟨some 44, none, .mv (.tmp 9)⟩,
    ⟨some 45, none, .bin .neq (.tmp 44) (.val (.int .i64 0))⟩] [] [1, 2, 5, 6, 8, 45])
  (.cond (.tmp 45)
  (.seq
  (.reg [⟨some 4, none, .mv (.val (.bool false))⟩] [] [4])
  (.ret))
  (.skip)))
  (.seq
  (.seq
  (.reg [⟨some 46, none, .mv (.tmp 1)⟩,
    ⟨some 47, none, .mv (.tmp 5)⟩,
    ⟨some 48, none, .len (.tmp 47)⟩,
    ⟨some 49, none, .bin .mul (.tmp 46) (.tmp 48)⟩,
    ⟨some 50, none, .bin .add (.tmp 49) (.val (.int .i64 1))⟩,
    ⟨some 51, none, .mv (.val (.int .i64 0))⟩] [] [2, 5, 6, 8, 50, 51])
  (.blk 0 (.loop (.trim (.seq
  (.reg [⟨some 52, none, .bin .lss (.tmp 51) (.tmp 50)⟩] [] [2, 5, 6, 8, 50, 51, 52])
  (.seq
  (.cond (.tmp 52)
  (.skip)
  (.ext 0))
  (.seq
  (.blk 1 (.seq
  (.reg [⟨some 54, none, .ld (some 4) (.tmp 8)⟩,
    ⟨some 55, none, .call 19 .pure [(.tmp 54)]⟩,
    ⟨some 53, none, .mv (.tmp 55)⟩,
    ⟨some 56, none, .ext 0 (.tmp 53)⟩,
    ⟨some 57, none, .ext 1 (.tmp 53)⟩,
    ⟨some 58, none, .ext 2 (.tmp 53)⟩,
    ⟨some 10, none, .zer 31 (.agg [(.list .nil 2 []), (.int .i64 0), (.list .nil 5 []), (.int .i64 0)])⟩,
    ⟨none, none, .st 4 (.tmp 10) (.tmp 56)⟩,
    ⟨some 11, none, .mv (.tmp 57)⟩,
    ⟨some 12, none, .mv (.tmp 58)⟩] [] [2, 5, 6, 8, 10, 11, 12, 50, 51])
  (.seq
  (.seq
  (.reg [⟨some 59, none, .mv (.tmp 12)⟩,
    ⟨some 60, none, .bin .neq (.tmp 59) (.val (.int .i64 0))⟩,
    ⟨some 61, none, .mv (.tmp 60)⟩,
    ⟨some 62, (some (61, false)), .faddr 2 (.tmp 10)⟩,
    ⟨some 63, (some (61, false)), .ld none (.tmp 62)⟩,
    ⟨some 64, (some (61, false)), .len (.tmp 63)⟩,
    ⟨some 65, (some (61, false)), .bin .neq (.tmp 64) (.val (.int .i64 1))⟩,
    ⟨some 66, none, .pick (.tmp 61) (.val (.bool true)) (.tmp 65)⟩,
    ⟨some 67, none, .mv (.tmp 66)⟩,
    ⟨some 68, (some (67, false)), .mv (.tmp 6)⟩,
    ⟨some 69, (some (67, false)), .un .not (.tmp 68)⟩,
    ⟨some 70, (some (67, false)), .mv (.tmp 69)⟩,
    ⟨some 71, (some (70, true)), .mv (.tmp 11)⟩,
    ⟨some 72, (some (70, true)), .len (.tmp 71)⟩,
    ⟨some 73, (some (70, true)), .bin .gtr (.tmp 72) (.val (.int .i64 0))⟩,
    ⟨some 74, (some (70, true)), .mv (.tmp 73)⟩,
    ⟨some 75, (some (74, false)), .faddr 2 (.tmp 10)⟩,
    ⟨some 76, (some (74, false)), .ld none (.tmp 75)⟩,
    ⟨some 77, (some (74, false)), .iaS 5 (.tmp 76) (.val (.int .i64 0))⟩,
    ⟨some 78, (some (74, false)), .faddr 0 (.tmp 77)⟩,
    ⟨some 79, (some (74, false)), .ld none (.tmp 78)⟩,
    ⟨some 80, (some (74, false)), .faddr 1 (.tmp 2)⟩,
    ⟨some 81, (some (74, false)), .ld none (.tmp 80)⟩,
    ⟨some 82, (some (74, false)), .bin .neq (.tmp 79) (.tmp 81)⟩,
    ⟨some 83, (some (70, true)), .pick (.tmp 74) (.val (.bool true)) (.tmp 82)⟩,
    ⟨some 84, (some (67, false)), .pick (.tmp 70) (.tmp 83) (.val (.bool false))⟩,
    ⟨some 85, none, .pick (.tmp 67) (.val (.bool true)) (.tmp 84)⟩] [] [2, 5, 6, 8, 10, 11, 50, 51, 85])
  (.cond (.tmp 85)
  (.seq
  (.reg [⟨some 4, none, .mv (.val (.bool false))⟩] [] [4])
  (.ret))
  (.skip)))
  (.seq
  (.reg [⟨some 86, none, .ld (some 4) (.tmp 10)⟩,
    ⟨none, none, .st 4 (.tmp 8) (.tmp 86)⟩] [] [2, 5, 6, 8, 11, 50, 51])
  (.seq
  (.reg [⟨some 87, none, .mv (.tmp 11)⟩,
    ⟨some 88, none, .len (.tmp 87)⟩,
    ⟨some 89, none, .bin .eql (.tmp 88) (.val (.int .i64 1))⟩] [] [2, 5, 6, 8, 50, 51, 89])
  (.cond (.tmp 89)
  (.seq
  (.reg [⟨some 90, none, .mv (.tmp 6)⟩,
    ⟨some 91, none, .mv (.tmp 90)⟩,
    ⟨some 92, (some (91, true)), .faddr 2 (.tmp 8)⟩,
    ⟨some 93, (some (91, true)), .ld none (.tmp 92)⟩,
    ⟨some 94, (some (91, true)), .iaS 5 (.tmp 93) (.val (.int .i64 0))⟩,
    ⟨some 95, (some (91, true)), .faddr 0 (.tmp 94)⟩,
    ⟨some 96, (some (91, true)), .ld none (.tmp 95)⟩,
    ⟨some 97, (some (91, true)), .mv (.tmp 5)⟩,
    ⟨some 98, (some (91, true)), .mv (.tmp 5)⟩,
    ⟨some 99, (some (91, true)), .len (.tmp 98)⟩,
    ⟨some 100, (some (91, true)), .bin .sub (.tmp 99) (.val (.int .i64 1))⟩,
    ⟨some 101, (some (91, true)), .iaS 1 (.tmp 97) (.tmp 100)⟩,
    ⟨some 102, (some (91, true)), .ld none (.tmp 101)⟩,
    ⟨some 103, (some (91, true)), .bin .eql (.tmp 96) (.tmp 102)⟩,
    ⟨some 104, none, .pick (.tmp 91) (.tmp 103) (.val (.bool false))⟩,
    ⟨some 105, none, .mv (.tmp 104)⟩,
    ⟨some 106, (some (105, true)), .call 14 .pure []⟩,
    ⟨some 107, none, .pick (.tmp 105) (.tmp 106) (.val (.bool false))⟩,
    ⟨some 4, none, .mv (.tmp 107)⟩] [] [4])
  (.ret))
  (.skip)))))))
  (.reg [⟨some 108, none, .bin .add (.tmp 51) (.val (.int .i64 1))⟩,
    ⟨some 51, none, .mv (.tmp 108)⟩] [] [2, 5, 6, 8, 50, 51]))))))))
  (.seq
  (.reg [⟨some 109, none, .mv (.tmp 6)⟩,
    ⟨some 110, none, .un .not (.tmp 109)⟩,
    ⟨some 111, none, .mv (.tmp 110)⟩,
    ⟨some 112, (some (111, true)), .call 14 .pure []⟩,
    ⟨some 113, none, .pick (.tmp 111) (.tmp 112) (.val (.bool false))⟩,
    ⟨some 4, none, .mv (.tmp 113)⟩] [] [4])
  (.ret))))))))⟩
theorem pf9_ok : fnOk Try.prog 9 pf9 = true := by kernel_rfl

/-- hinterland/hinterlandlaw18.AirWaysLeast -/
def pf8 : PFn := ⟨95, 4, [.tmp 8], .seq
  (.reg [⟨some 4, none, .boxp 24 (.tmp 0)⟩,
    ⟨some 8, none, .mv (.val (.bool false))⟩] [] [1, 2, 3, 4])
  (.seq
  (.seq
  (.reg [⟨some 13, none, .ld (some 2) (.tmp 4)⟩,
    ⟨some 14, none, .call 13 .pure [(.tmp 13)]⟩,
    ⟨some 15, none, .mv (.tmp 14)⟩,
    ⟨some 16, (some (15, false)), .mv (.tmp 3)⟩,
    ⟨some 17, (some (15, false)), .len (.tmp 16)⟩,
    ⟨some 18, (some (15, false)), .bin .gtr (.tmp 17) (.val (.int .i64 400))⟩,
    ⟨some 19, none, .pick (.tmp 15) (.val (.bool true)) (.tmp 18)⟩] [] [1, 2, 3, 4, 19])
  (.cond (.tmp 19)
  (.seq
  (.reg [⟨some 20, none, .call 14 .pure []⟩,
    ⟨some 8, none, .mv (.tmp 20)⟩] [] [8])
  (.ret))
  (.skip)))
  (.seq
  (.reg [⟨some 22, none, .ld (some 2) (.tmp 4)⟩,
    ⟨some 23, none, .mv (.tmp 1)⟩,
    ⟨some 24, none, .mv (.tmp 2)⟩,
    ⟨some 25, none, .call 25 .pure [(.tmp 22), (.tmp 23), (.tmp 24)]⟩,
    ⟨some 21, none, .mv (.tmp 25)⟩,
    ⟨some 26, none, .ext 0 (.tmp 21)⟩,
    ⟨some 27, none, .ext 1 (.tmp 21)⟩,
    ⟨some 28, none, .ext 2 (.tmp 21)⟩,
    ⟨some 9, none, .mv (.tmp 26)⟩,
    ⟨some 10, none, .mv (.tmp 27)⟩,
    ⟨some 11, none, .mv (.tmp 28)⟩] [] [1, 2, 3, 4, 9, 10, 11])
  (.seq
  (.seq
  (.reg [⟨some 29, none, .mv (.tmp 11)⟩,
    ⟨some 30, none, .bin .neq (.tmp 29) (.val (.int .i64 0))⟩] [] [1, 2, 3, 4, 9, 10, 30])
  (.cond (.tmp 30)
  (.seq
  (.reg [⟨some 31, none, .mv (.tmp 10)⟩,
    ⟨some 32, none, .un .not (.tmp 31)⟩,
    ⟨some 33, none, .mv (.tmp 32)⟩,
    ⟨some 34, (some (33, true)), .mv (.tmp 9)⟩,
    ⟨some 35, (some (33, true)), .len (.tmp 34)⟩,
    ⟨some 36, (some (33, true)), .bin .eql (.tmp 35) (.val (.int .i64 0))⟩,
    ⟨some 37, none, .pick (.tmp 33) (.tmp 36) (.val (.bool false))⟩,
    ⟨some 38, none, .mv (.tmp 37)⟩,
    ⟨some 39, (some (38, true)), .call 14 .pure []⟩,
    ⟨some 40, none, .pick (.tmp 38) (.tmp 39) (.val (.bool false))⟩,
    ⟨some 8, none, .mv (.tmp 40)⟩] [] [8])
  (.ret))
  (.skip)))
  (.seq
  (.seq
  (.reg [⟨some 41, none, .mv (.tmp 2)⟩,
    ⟨some 42, none, .bin .eql (.tmp 41) (.val (.int .i64 0))⟩] [] [1, 2, 3, 4, 9, 10, 42])
  (.cond (.tmp 42)
  (.seq
  (.reg [⟨some 43, none, .mv (.tmp 10)⟩,
    ⟨some 44, none, .mv (.tmp 43)⟩,
    ⟨some 45, (some (44, true)), .mv (.tmp 9)⟩,
    ⟨some 46, (some (44, true)), .len (.tmp 45)⟩,
    ⟨some 47, (some (44, true)), .bin .eql (.tmp 46) (.val (.int .i64 1))⟩,
    ⟨some 48, none, .pick (.tmp 44) (.tmp 47) (.val (.bool false))⟩,
    ⟨some 49, none, .mv (.tmp 48)⟩,
    ⟨some 50, (some (49, true)), .mv (.tmp 9)⟩,
    ⟨some 51, (some (49, true)), .iaS 1 (.tmp 50) (.val (.int .i64 0))⟩,
    ⟨some 52, (some (49, true)), .ld none (.tmp 51)⟩,
    ⟨some 53, (some (49, true)), .mv (.tmp 1)⟩,
    ⟨some 54, (some (49, true)), .bin .eql (.tmp 52) (.tmp 53)⟩,
    ⟨some 55, none, .pick (.tmp 49) (.tmp 54) (.val (.bool false))⟩,
    ⟨some 56, none, .mv (.tmp 55)⟩,
    ⟨some 57, (some (56, true)), .call 14 .pure []⟩,
    ⟨some 58, none, .pick (.tmp 56) (.tmp 57) (.val (.bool false))⟩,
    ⟨some 8, none, .mv (.tmp 58)⟩] [] [8])
  (.ret))
  (.skip)))
  (.seq
  (.reg [⟨some 59, none, .ld (some 2) (.tmp 4)⟩,
    ⟨some 60, none, .mv (.tmp 1)⟩,
    ⟨some 61, none, .mv (.tmp 2)⟩,
    ⟨some 62, none, .mv (.tmp 3)⟩,
    ⟨some 63, none, .call 27 .pure [(.tmp 59), (.tmp 60), (.tmp 61), (.tmp 62)]⟩,
    ⟨some 12, none, .mv (.tmp 63)⟩] [] [1, 2, 3, 4, 9, 10, 12])
  (.seq
  (.seq
  (.reg [⟨some 64, none, .mv (.tmp 10)⟩,
    ⟨some 65, none, .un .not (.tmp 64)⟩] [] [1, 2, 3, 4, 9, 12, 65])
  (.cond (.tmp 65)
  (.seq
  (.reg [⟨some 66, none, .mv (.tmp 12)⟩,
    ⟨some 67, none, .un .not (.tmp 66)⟩,
    ⟨some 68, none, .mv (.tmp 67)⟩,
    ⟨some 69, (some (68, true)), .mv (.tmp 9)⟩,
    ⟨some 70, (some (68, true)), .len (.tmp 69)⟩,
    ⟨some 71, (some (68, true)), .bin .eql (.tmp 70) (.val (.int .i64 0))⟩,
    ⟨some 72, none, .pick (.tmp 68) (.tmp 71) (.val (.bool false))⟩,
    ⟨some 73, none, .mv (.tmp 72)⟩,
    ⟨some 74, (some (73, true)), .call 14 .pure []⟩,
    ⟨some 75, none, .pick (.tmp 73) (.tmp 74) (.val (.bool false))⟩,
    ⟨some 8, none, .mv (.tmp 75)⟩] [] [8])
  (.ret))
  (.skip)))
  (.seq
  (.reg [⟨some 76, none, .ld (some 2) (.tmp 4)⟩,
    ⟨some 77, none, .mv (.tmp 1)⟩,
    ⟨some 78, none, .mv (.tmp 2)⟩,
    ⟨some 79, none, .mv (.tmp 9)⟩,
    ⟨some 80, none, .call 27 .pure [(.tmp 76), (.tmp 77), (.tmp 78), (.tmp 79)]⟩,
    ⟨some 81, none, .mv (.tmp 80)⟩,
    ⟨some 82, (some (81, true)), .mv (.tmp 12)⟩,
    ⟨some 83, (some (81, true)), .un .not (.tmp 82)⟩,
    ⟨some 84, (some (81, true)), .mv (.tmp 83)⟩,
    ⟨some 85, (some (84, false)), .mv (.tmp 9)⟩,
    ⟨some 86, (some (84, false)), .len (.tmp 85)⟩,
    ⟨some 87, (some (84, false)), .mv (.tmp 3)⟩,
    ⟨some 88, (some (84, false)), .len (.tmp 87)⟩,
    ⟨some 89, (some (84, false)), .bin .leq (.tmp 86) (.tmp 88)⟩,
    ⟨some 90, (some (81, true)), .pick (.tmp 84) (.val (.bool true)) (.tmp 89)⟩,
    ⟨some 91, none, .pick (.tmp 81) (.tmp 90) (.val (.bool false))⟩,
    ⟨some 92, none, .mv (.tmp 91)⟩,
    ⟨some 93, (some (92, true)), .call 14 .pure []⟩,
    ⟨some 94, none, .pick (.tmp 92) (.tmp 93) (.val (.bool false))⟩,
    ⟨some 8, none, .mv (.tmp 94)⟩] [] [8])
  (.ret))))))))⟩
theorem pf8_ok : fnOk Try.prog 8 pf8 = true := by kernel_rfl

/-- hinterland/hinterlandlaw18.AirWays -/
def pf7 : PFn := ⟨48, 3, [.tmp 6], .seq
  (.reg [⟨some 3, none, .boxp 24 (.tmp 0)⟩,
    ⟨some 6, none, .mv (.val (.bool false))⟩] [] [1, 2, 3])
  (.seq
  (.seq
  (.reg [⟨some 13, none, .ld (some 2) (.tmp 3)⟩,
    ⟨some 14, none, .call 13 .pure [(.tmp 13)]⟩] [] [1, 2, 3, 14])
  (.cond (.tmp 14)
  (.seq
  (.reg [⟨some 15, none, .call 14 .pure []⟩,
    ⟨some 6, none, .mv (.tmp 15)⟩] [] [6])
  (.ret))
  (.skip)))
  (.seq
  (.reg [⟨some 17, none, .ld (some 2) (.tmp 3)⟩,
    ⟨some 18, none, .mv (.tmp 1)⟩,
    ⟨some 19, none, .mv (.tmp 2)⟩,
    ⟨some 20, none, .call 25 .pure [(.tmp 17), (.tmp 18), (.tmp 19)]⟩,
    ⟨some 16, none, .mv (.tmp 20)⟩,
    ⟨some 21, none, .ext 0 (.tmp 16)⟩,
    ⟨some 22, none, .ext 1 (.tmp 16)⟩,
    ⟨some 23, none, .ext 2 (.tmp 16)⟩,
    ⟨some 7, none, .mv (.tmp 21)⟩,
    ⟨some 8, none, .mv (.tmp 22)⟩,
    ⟨some 9, none, .mv (.tmp 23)⟩] [] [1, 2, 3, 7, 8, 9])
  (.seq
  (.reg [⟨some 25, none, .ld (some 2) (.tmp 3)⟩,
    ⟨some 26, none, .mv (.tmp 1)⟩,
    ⟨some 27, none, .mv (.tmp 2)⟩,
    ⟨some 28, none, .call 26 .pure [(.tmp 25), (.tmp 26), (.tmp 27)]⟩,
    ⟨some 24, none, .mv (.tmp 28)⟩,
    ⟨some 29, none, .ext 0 (.tmp 24)⟩,
    ⟨some 30, none, .ext 1 (.tmp 24)⟩,
    ⟨some 31, none, .ext 2 (.tmp 24)⟩,
    ⟨some 10, none, .mv (.tmp 29)⟩,
    ⟨some 11, none, .mv (.tmp 30)⟩,
    ⟨some 12, none, .mv (.tmp 31)⟩] [] [7, 8, 9, 10, 11, 12])
  (.seq
  (.reg [⟨some 32, none, .mv (.tmp 9)⟩,
    ⟨some 33, none, .mv (.tmp 12)⟩,
    ⟨some 34, none, .bin .eql (.tmp 32) (.tmp 33)⟩,
    ⟨some 35, none, .mv (.tmp 34)⟩,
    ⟨some 36, (some (35, true)), .mv (.tmp 8)⟩,
    ⟨some 37, (some (35, true)), .mv (.tmp 11)⟩,
    ⟨some 38, (some (35, true)), .eqb false (.tmp 36) (.tmp 37)⟩,
    ⟨some 39, none, .pick (.tmp 35) (.tmp 38) (.val (.bool false))⟩,
    ⟨some 40, none, .mv (.tmp 39)⟩,
    ⟨some 41, (some (40, true)), .mv (.tmp 7)⟩,
    ⟨some 42, (some (40, true)), .mv (.tmp 10)⟩,
    ⟨some 43, (some (40, true)), .call 21 .pure [(.tmp 41), (.tmp 42)]⟩,
    ⟨some 44, none, .pick (.tmp 40) (.tmp 43) (.val (.bool false))⟩,
    ⟨some 45, none, .mv (.tmp 44)⟩,
    ⟨some 46, (some (45, true)), .call 14 .pure []⟩,
    ⟨some 47, none, .pick (.tmp 45) (.tmp 46) (.val (.bool false))⟩,
    ⟨some 6, none, .mv (.tmp 47)⟩] [] [6])
  (.ret)))))⟩
theorem pf7_ok : fnOk Try.prog 7 pf7 = true := by kernel_rfl

/-- hinterland/hinterlandlaw18.AirArrives -/
def pf6 : PFn := ⟨42, 2, [.tmp 4], .seq
  (.reg [⟨some 2, none, .boxp 31 (.tmp 0)⟩,
    ⟨some 4, none, .mv (.val (.bool false))⟩] [] [1, 2])
  (.seq
  (.seq
  (.reg [⟨some 9, none, .faddr 0 (.tmp 2)⟩,
    ⟨some 10, none, .ld (some 2) (.tmp 9)⟩,
    ⟨some 11, none, .call 13 .pure [(.tmp 10)]⟩,
    ⟨some 12, none, .mv (.tmp 11)⟩,
    ⟨some 13, (some (12, false)), .faddr 2 (.tmp 2)⟩,
    ⟨some 14, (some (12, false)), .ld none (.tmp 13)⟩,
    ⟨some 15, (some (12, false)), .len (.tmp 14)⟩,
    ⟨some 16, (some (12, false)), .bin .gtr (.tmp 15) (.val (.int .i64 400))⟩,
    ⟨some 17, none, .pick (.tmp 12) (.val (.bool true)) (.tmp 16)⟩] [] [1, 2, 17])
  (.cond (.tmp 17)
  (.seq
  (.reg [⟨some 18, none, .call 14 .pure []⟩,
    ⟨some 4, none, .mv (.tmp 18)⟩] [] [4])
  (.ret))
  (.skip)))
  (.seq
  (.reg [⟨some 20, none, .ld (some 4) (.tmp 2)⟩,
    ⟨some 21, none, .mv (.tmp 1)⟩,
    ⟨some 22, none, .call 23 .pure [(.tmp 20), (.tmp 21)]⟩,
    ⟨some 19, none, .mv (.tmp 22)⟩,
    ⟨some 23, none, .ext 0 (.tmp 19)⟩,
    ⟨some 24, none, .ext 1 (.tmp 19)⟩,
    ⟨some 5, none, .zer 31 (.agg [(.list .nil 2 []), (.int .i64 0), (.list .nil 5 []), (.int .i64 0)])⟩,
    ⟨none, none, .st 4 (.tmp 5) (.tmp 23)⟩,
    ⟨some 6, none, .mv (.tmp 24)⟩] [] [1, 2, 5, 6])
  (.seq
  (.reg [⟨some 26, none, .ld (some 4) (.tmp 2)⟩,
    ⟨some 27, none, .mv (.tmp 1)⟩,
    ⟨some 28, none, .call 24 .pure [(.tmp 26), (.tmp 27)]⟩,
    ⟨some 25, none, .mv (.tmp 28)⟩,
    ⟨some 29, none, .ext 0 (.tmp 25)⟩,
    ⟨some 30, none, .ext 1 (.tmp 25)⟩,
    ⟨some 7, none, .zer 31 (.agg [(.list .nil 2 []), (.int .i64 0), (.list .nil 5 []), (.int .i64 0)])⟩,
    ⟨none, none, .st 4 (.tmp 7) (.tmp 29)⟩,
    ⟨some 8, none, .mv (.tmp 30)⟩] [] [5, 6, 7, 8])
  (.seq
  (.reg [⟨some 31, none, .mv (.tmp 6)⟩,
    ⟨some 32, none, .mv (.tmp 8)⟩,
    ⟨some 33, none, .bin .eql (.tmp 31) (.tmp 32)⟩,
    ⟨some 34, none, .mv (.tmp 33)⟩,
    ⟨some 35, (some (34, true)), .ld (some 4) (.tmp 5)⟩,
    ⟨some 36, (some (34, true)), .ld (some 4) (.tmp 7)⟩,
    ⟨some 37, (some (34, true)), .call 22 .pure [(.tmp 35), (.tmp 36)]⟩,
    ⟨some 38, none, .pick (.tmp 34) (.tmp 37) (.val (.bool false))⟩,
    ⟨some 39, none, .mv (.tmp 38)⟩,
    ⟨some 40, (some (39, true)), .call 14 .pure []⟩,
    ⟨some 41, none, .pick (.tmp 39) (.tmp 40) (.val (.bool false))⟩,
    ⟨some 4, none, .mv (.tmp 41)⟩] [] [4])
  (.ret)))))⟩
theorem pf6_ok : fnOk Try.prog 6 pf6 = true := by kernel_rfl

/-- hinterland/hinterlandlaw18.AirSteps -/
def pf5 : PFn := ⟨47, 1, [.tmp 2], .seq
  (.reg [⟨some 1, none, .boxp 31 (.tmp 0)⟩,
    ⟨some 2, none, .mv (.val (.bool false))⟩] [] [1])
  (.seq
  (.seq
  (.reg [⟨some 9, none, .faddr 0 (.tmp 1)⟩,
    ⟨some 10, none, .ld (some 2) (.tmp 9)⟩,
    ⟨some 11, none, .call 13 .pure [(.tmp 10)]⟩,
    ⟨some 12, none, .mv (.tmp 11)⟩,
    ⟨some 13, (some (12, false)), .faddr 2 (.tmp 1)⟩,
    ⟨some 14, (some (12, false)), .ld none (.tmp 13)⟩,
    ⟨some 15, (some (12, false)), .len (.tmp 14)⟩,
    ⟨some 16, (some (12, false)), .bin .gtr (.tmp 15) (.val (.int .i64 400))⟩,
    ⟨some 17, none, .pick (.tmp 12) (.val (.bool true)) (.tmp 16)⟩] [] [1, 17])
  (.cond (.tmp 17)
  (.seq
  (.reg [⟨some 18, none, .call 14 .pure []⟩,
    ⟨some 2, none, .mv (.tmp 18)⟩] [] [2])
  (.ret))
  (.skip)))
  (.seq
  (.reg [⟨some 20, none, .ld (some 4) (.tmp 1)⟩,
    ⟨some 21, none, .call 19 .pure [(.tmp 20)]⟩,
    ⟨some 19, none, .mv (.tmp 21)⟩,
    ⟨some 22, none, .ext 0 (.tmp 19)⟩,
    ⟨some 23, none, .ext 1 (.tmp 19)⟩,
    ⟨some 24, none, .ext 2 (.tmp 19)⟩,
    ⟨some 3, none, .zer 31 (.agg [(.list .nil 2 []), (.int .i64 0), (.list .nil 5 []), (.int .i64 0)])⟩,
    ⟨none, none, .st 4 (.tmp 3) (.tmp 22)⟩,
    ⟨some 4, none, .mv (.tmp 23)⟩,
    ⟨some 5, none, .mv (.tmp 24)⟩] [] [1, 3, 4, 5])
  (.seq
  (.reg [⟨some 26, none, .ld (some 4) (.tmp 1)⟩,
    ⟨some 27, none, .call 20 .pure [(.tmp 26)]⟩,
    ⟨some 25, none, .mv (.tmp 27)⟩,
    ⟨some 28, none, .ext 0 (.tmp 25)⟩,
    ⟨some 29, none, .ext 1 (.tmp 25)⟩,
    ⟨some 30, none, .ext 2 (.tmp 25)⟩,
    ⟨some 6, none, .zer 31 (.agg [(.list .nil 2 []), (.int .i64 0), (.list .nil 5 []), (.int .i64 0)])⟩,
    ⟨none, none, .st 4 (.tmp 6) (.tmp 28)⟩,
    ⟨some 7, none, .mv (.tmp 29)⟩,
    ⟨some 8, none, .mv (.tmp 30)⟩] [] [3, 4, 5, 6, 7, 8])
  (.seq
  (.reg [⟨some 31, none, .mv (.tmp 5)⟩,
    ⟨some 32, none, .mv (.tmp 8)⟩,
    ⟨some 33, none, .bin .eql (.tmp 31) (.tmp 32)⟩,
    ⟨some 34, none, .mv (.tmp 33)⟩,
    ⟨some 35, (some (34, true)), .mv (.tmp 4)⟩,
    ⟨some 36, (some (34, true)), .mv (.tmp 7)⟩,
    ⟨some 37, (some (34, true)), .call 21 .pure [(.tmp 35), (.tmp 36)]⟩,
    ⟨some 38, none, .pick (.tmp 34) (.tmp 37) (.val (.bool false))⟩,
    ⟨some 39, none, .mv (.tmp 38)⟩,
    ⟨some 40, (some (39, true)), .ld (some 4) (.tmp 3)⟩,
    ⟨some 41, (some (39, true)), .ld (some 4) (.tmp 6)⟩,
    ⟨some 42, (some (39, true)), .call 22 .pure [(.tmp 40), (.tmp 41)]⟩,
    ⟨some 43, none, .pick (.tmp 39) (.tmp 42) (.val (.bool false))⟩,
    ⟨some 44, none, .mv (.tmp 43)⟩,
    ⟨some 45, (some (44, true)), .call 14 .pure []⟩,
    ⟨some 46, none, .pick (.tmp 44) (.tmp 45) (.val (.bool false))⟩,
    ⟨some 2, none, .mv (.tmp 46)⟩] [] [2])
  (.ret)))))⟩
theorem pf5_ok : fnOk Try.prog 5 pf5 = true := by kernel_rfl

/-- hinterland/hinterlandlaw18.AirSkies -/
def pf4 : PFn := ⟨21, 1, [.tmp 2], .seq
  (.reg [⟨some 1, none, .boxp 31 (.tmp 0)⟩,
    ⟨some 2, none, .mv (.val (.bool false))⟩] [] [1])
  (.seq
  (.seq
  (.reg [⟨some 3, none, .faddr 0 (.tmp 1)⟩,
    ⟨some 4, none, .ld (some 2) (.tmp 3)⟩,
    ⟨some 5, none, .call 13 .pure [(.tmp 4)]⟩,
    ⟨some 6, none, .mv (.tmp 5)⟩,
    ⟨some 7, (some (6, false)), .faddr 2 (.tmp 1)⟩,
    ⟨some 8, (some (6, false)), .ld none (.tmp 7)⟩,
    ⟨some 9, (some (6, false)), .len (.tmp 8)⟩,
    ⟨some 10, (some (6, false)), .bin .gtr (.tmp 9) (.val (.int .i64 400))⟩,
    ⟨some 11, none, .pick (.tmp 6) (.val (.bool true)) (.tmp 10)⟩] [] [1, 11])
  (.cond (.tmp 11)
  (.seq
  (.reg [⟨some 12, none, .call 14 .pure []⟩,
    ⟨some 2, none, .mv (.tmp 12)⟩] [] [2])
  (.ret))
  (.skip)))
  (.seq
  (.reg [⟨some 13, none, .ld (some 4) (.tmp 1)⟩,
    ⟨some 14, none, .call 17 .pure [(.tmp 13)]⟩,
    ⟨some 15, none, .ld (some 4) (.tmp 1)⟩,
    ⟨some 16, none, .call 18 .pure [(.tmp 15)]⟩,
    ⟨some 17, none, .bin .eql (.tmp 14) (.tmp 16)⟩,
    ⟨some 18, none, .mv (.tmp 17)⟩,
    ⟨some 19, (some (18, true)), .call 14 .pure []⟩,
    ⟨some 20, none, .pick (.tmp 18) (.tmp 19) (.val (.bool false))⟩,
    ⟨some 2, none, .mv (.tmp 20)⟩] [] [2])
  (.ret)))⟩
theorem pf4_ok : fnOk Try.prog 4 pf4 = true := by kernel_rfl

/-- hinterland/hinterlandlaw18.AirValidates -/
def pf3 : PFn := ⟨14, 1, [.tmp 2], .seq
  (.reg [⟨some 1, none, .boxp 24 (.tmp 0)⟩,
    ⟨some 2, none, .mv (.val (.bool false))⟩] [] [1])
  (.seq
  (.seq
  (.reg [⟨some 3, none, .ld (some 2) (.tmp 1)⟩,
    ⟨some 4, none, .call 13 .pure [(.tmp 3)]⟩] [] [1, 4])
  (.cond (.tmp 4)
  (.seq
  (.reg [⟨some 5, none, .call 14 .pure []⟩,
    ⟨some 2, none, .mv (.tmp 5)⟩] [] [2])
  (.ret))
  (.skip)))
  (.seq
  (.reg [⟨some 6, none, .ld (some 2) (.tmp 1)⟩,
    ⟨some 7, none, .call 15 .pure [(.tmp 6)]⟩,
    ⟨some 8, none, .ld (some 2) (.tmp 1)⟩,
    ⟨some 9, none, .call 16 .pure [(.tmp 8)]⟩,
    ⟨some 10, none, .bin .eql (.tmp 7) (.tmp 9)⟩,
    ⟨some 11, none, .mv (.tmp 10)⟩,
    ⟨some 12, (some (11, true)), .call 14 .pure []⟩,
    ⟨some 13, none, .pick (.tmp 11) (.tmp 12) (.val (.bool false))⟩,
    ⟨some 2, none, .mv (.tmp 13)⟩] [] [2])
  (.ret)))⟩
theorem pf3_ok : fnOk Try.prog 3 pf3 = true := by kernel_rfl

/-- hinterland/hinterlandlaw18.AirKeeps -/
def pf12 : PFn := ⟨224, 2, [.tmp 4], .seq
  (.reg [⟨some 2, none, .boxm 31 (.tmp 0)⟩,
    ⟨some 4, none, .mv (.val (.bool false))⟩] [] [1, 2])
  (.seq
  (.seq
  (.reg [⟨some 17, none, .faddr 0 (.tmp 2)⟩,
    ⟨some 18, none, .ld (some 2) (.tmp 17)⟩,
    ⟨some 19, none, .call 13 .pure [(.tmp 18)]⟩,
    ⟨some 20, none, .mv (.tmp 19)⟩,
    ⟨some 21, (some (20, false)), .faddr 2 (.tmp 2)⟩,
    ⟨some 22, (some (20, false)), .ld none (.tmp 21)⟩,
    ⟨some 23, (some (20, false)), .len (.tmp 22)⟩,
    ⟨some 24, (some (20, false)), .bin .gtr (.tmp 23) (.val (.int .i64 400))⟩,
    ⟨some 25, none, .pick (.tmp 20) (.val (.bool true)) (.tmp 24)⟩,
    ⟨some 26, none, .mv (.tmp 25)⟩,
    ⟨some 27, (some (26, false)), .mv (.tmp 1)⟩,
    ⟨some 28, (some (26, false)), .len (.tmp 27)⟩,
    ⟨some 29, (some (26, false)), .bin .gtr (.tmp 28) (.val (.int .i64 300))⟩,
    ⟨some 30, none, .pick (.tmp 26) (.val (.bool true)) (.tmp 29)⟩,
    ⟨some 31, none, .mv (.tmp 30)⟩,
    ⟨some 32, (some (31, false)), .ld (some 4) (.tmp 2)⟩,
    ⟨some 33, (some (31, false)), .call 17 .pure [(.tmp 32)]⟩,
    ⟨some 34, (some (31, false)), .bin .neq (.tmp 33) (.val (.int .i64 0))⟩,
    ⟨some 35, none, .pick (.tmp 31) (.val (.bool true)) (.tmp 34)⟩] [] [1, 2, 35])
  (.cond (.tmp 35)
  (.seq
  (.reg [⟨some 36, none, .call 14 .pure []⟩,
    ⟨some 4, none, .mv (.tmp 36)⟩] [] [4])
  (.ret))
  (.skip)))
  (.seq
  (.seq
  (.reg [⟨some 37, none, .mv (.tmp 1)⟩,
    ⟨some 38, none, .len (.tmp 37)⟩,
    ⟨some 39, none, .mv (.val (.int .i64 0))⟩] [] [2, 37, 38, 39])
  (.blk 0 (.loop (.trim (.seq
  (.reg [⟨some 40, none, .bin .lss (.tmp 39) (.tmp 38)⟩] [] [2, 37, 38, 39, 40])
  (.seq
  (.cond (.tmp 40)
  (.skip)
  (.ext 0))
  (.seq
  (.blk 1 (.seq
  (.reg [⟨some 41, none, .iaS 1 (.tmp 37) (.tmp 39)⟩,
    ⟨some 42, none, .ld none (.tmp 41)⟩,
    ⟨some 6, none, .mv (.tmp 42)⟩] [] [2, 6, 37, 38, 39])
  (.seq
  (.reg [⟨some 43, none, .ld (some 4) (.tmp 2)⟩,
    ⟨some 7, none, .zer 31 (.agg [(.list .nil 2 []), (.int .i64 0), (.list .nil 5 []), (.int .i64 0)])⟩,
    ⟨none, none, .st 4 (.tmp 7) (.tmp 43)⟩,
    ⟨some 8, none, .mv (.val (.int .i64 0))⟩] [] [2, 6, 7, 37, 38, 39])
  (.seq
  (.reg [⟨some 9, none, .mv (.val (.list .nil 1 []))⟩] [] [2, 6, 7, 9, 37, 38, 39])
  (.seq
  (.blk 2 (.seq
  (.reg [⟨some 51, none, .mv (.tmp 6)⟩,
    ⟨some 52, none, .len (.tmp 51)⟩,
    ⟨some 53, none, .bin .eql (.tmp 52) (.val (.int .i64 1))⟩,
    ⟨some 50, none, .mv (.tmp 53)⟩] [] [2, 6, 7, 9, 37, 38, 39, 50])
  (.cond (.tmp 50)
  (.reg [⟨some 55, none, .ld (some 4) (.tmp 2)⟩,
    ⟨some 56, none, .mv (.tmp 6)⟩,
    ⟨some 57, none, .iaS 1 (.tmp 56) (.val (.int .i64 0))⟩,
    ⟨some 58, none, .ld none (.tmp 57)⟩,
    ⟨some 59, none, .call 23 .pure [(.tmp 55), (.tmp 58)]⟩,
    ⟨some 54, none, .mv (.tmp 59)⟩,
    ⟨some 60, none, .ext 0 (.tmp 54)⟩,
    ⟨some 61, none, .ext 1 (.tmp 54)⟩,
    ⟨none, none, .st 4 (.tmp 7) (.tmp 60)⟩,
    ⟨some 8, none, .mv (.tmp 61)⟩] [] [2, 6, 7, 8, 9, 37, 38, 39])
  (.seq
  (.reg [⟨some 63, none, .mv (.tmp 6)⟩,
    ⟨some 64, none, .len (.tmp 63)⟩,
    ⟨some 65, none, .bin .eql (.tmp 64) (.val (.int .i64 2))⟩,
    ⟨some 62, none, .mv (.tmp 65)⟩] [] [2, 6, 7, 9, 37, 38, 39, 62])
  (.cond (.tmp 62)
  (.reg [⟨some 67, none, .ld (some 4) (.tmp 2)⟩,
    ⟨some 68, none, .mv (.tmp 6)⟩,
    ⟨some 69, none, .iaS 1 (.tmp 68) (.val (.int .i64 0))⟩,
    ⟨some 70, none, .ld none (.tmp 69)⟩,
    ⟨some 71, none, .mv (.tmp 6)⟩,
    ⟨some 72, none, .iaS 1 (.tmp 71) (.val (.int .i64 1))⟩,
    ⟨some 73, none, .ld none (.tmp 72)⟩,
    ⟨some 74, none, .call 33 .pure [(.tmp 67), (.tmp 70), (.tmp 73)]⟩,
    ⟨some 66, none, .mv (.tmp 74)⟩,
    ⟨some 75, none, .ext 0 (.tmp 66)⟩,
    ⟨some 76, none, .ext 1 (.tmp 66)⟩,
    ⟨none, none, .st 4 (.tmp 7) (.tmp 75)⟩,
    ⟨some 8, none, .mv (.tmp 76)⟩] [] [2, 6, 7, 8, 9, 37, 38, 39])
  (.reg [⟨some 45, none, .ld (some 4) (.tmp 2)⟩,
    ⟨some 46, none, .call 19 .pure [(.tmp 45)]⟩,
    ⟨some 44, none, .mv (.tmp 46)⟩,
    ⟨some 47, none, .ext 0 (.tmp 44)⟩,
    ⟨some 48, none, .ext 1 (.tmp 44)⟩,
    ⟨some 49, none, .ext 2 (.tmp 44)⟩,
    ⟨none, none, .st 4 (.tmp 7) (.tmp 47)⟩,
    ⟨some 9, none, .mv (.tmp 48)⟩,
    ⟨some 8, none, .mv (.tmp 49)⟩] [] [2, 6, 7, 8, 9, 37, 38, 39]))))))
  (.seq
  (.seq
  (.reg [⟨some 77, none, .mv (.tmp 8)⟩,
    ⟨some 78, none, .bin .neq (.tmp 77) (.val (.int .i64 0))⟩] [] [2, 6, 7, 9, 37, 38, 39, 78])
  (.cond (.tmp 78)
  (.ext 1)
  (.skip)))
  (.seq
  (.seq
  (.reg [⟨some 79, none, .ld (some 4) (.tmp 7)⟩,
    ⟨some 80, none, .call 17 .pure [(.tmp 79)]⟩,
    ⟨some 81, none, .bin .neq (.tmp 80) (.val (.int .i64 0))⟩,
    ⟨some 82, none, .mv (.tmp 81)⟩,
    ⟨some 83, (some (82, false)), .faddr 2 (.tmp 7)⟩,
    ⟨some 84, (some (82, false)), .ld none (.tmp 83)⟩,
    ⟨some 85, (some (82, false)), .len (.tmp 84)⟩,
    ⟨some 86, (some (82, false)), .faddr 2 (.tmp 2)⟩,
    ⟨some 87, (some (82, false)), .ld none (.tmp 86)⟩,
    ⟨some 88, (some (82, false)), .len (.tmp 87)⟩,
    ⟨some 89, (some (82, false)), .bin .neq (.tmp 85) (.tmp 88)⟩,
    ⟨some 90, none, .pick (.tmp 82) (.val (.bool true)) (.tmp 89)⟩,
    ⟨some 91, none, .mv (.tmp 90)⟩,
    ⟨some 92, (some (91, false)), .faddr 0 (.tmp 7)⟩,
    ⟨some 93, (some (91, false)), .ld (some 2) (.tmp 92)⟩,
    ⟨some 94, (some (91, false)), .faddr 0 (.tmp 2)⟩,
    ⟨some 95, (some (91, false)), .ld (some 2) (.tmp 94)⟩,
    ⟨some 96, (some (91, false)), .call 30 .pure [(.tmp 93), (.tmp 95)]⟩,
    ⟨some 97, (some (91, false)), .un .not (.tmp 96)⟩,
    ⟨some 98, none, .pick (.tmp 91) (.val (.bool true)) (.tmp 97)⟩] [] [2, 6, 7, 9, 37, 38, 39, 98])
  (.cond (.tmp 98)
  (.seq
  (.reg [⟨some 4, none, .mv (.val (.bool false))⟩] [] [4])
  (.ret))
  (.skip)))
  (.seq
  (.seq
  (.reg [⟨some 99, none, .faddr 2 (.tmp 7)⟩,
    ⟨some 100, none, .ld none (.tmp 99)⟩,
    ⟨some 101, none, .len (.tmp 100)⟩,
    ⟨some 102, none, .mv (.val (.int .i64 0))⟩] [] [2, 6, 7, 9, 37, 38, 39, 100, 101, 102])
  (.blk 3 (.loop (.trim (.seq
  (.reg [⟨some 103, none, .bin .lss (.tmp 102) (.tmp 101)⟩] [] [2, 6, 7, 9, 37, 38, 39, 100, 101, 102, 103])
  (.seq
  (.cond (.tmp 103)
  (.skip)
  (.ext 3))
  (.seq
  (.blk 4 (.seq
  (.reg [⟨some 104, none, .mv (.tmp 102)⟩,
    ⟨some 105, none, .iaS 5 (.tmp 100) (.tmp 102)⟩,
    ⟨some 106, none, .ld (some 5) (.tmp 105)⟩,
    ⟨some 11, none, .zer 47 (.agg [(.int .i64 0), (.int .i64 0), (.int .i64 0), (.int .i64 0), (.int .i64 0)])⟩,
    ⟨some 10, none, .mv (.tmp 104)⟩,
    ⟨none, none, .st 5 (.tmp 11) (.tmp 106)⟩] [] [2, 6, 7, 9, 10, 11, 37, 38, 39, 100, 101, 102])
  (.seq
  (.reg [⟨some 107, none, .faddr 2 (.tmp 2)⟩,
    ⟨some 108, none, .ld none (.tmp 107)⟩,
    ⟨some 109, none, .mv (.tmp 10)⟩,
    ⟨some 110, none, .iaS 5 (.tmp 108) (.tmp 109)⟩,
    ⟨some 111, none, .ld (some 5) (.tmp 110)⟩,
    ⟨some 12, none, .zer 47 (.agg [(.int .i64 0), (.int .i64 0), (.int .i64 0), (.int .i64 0), (.int .i64 0)])⟩,
    ⟨none, none, .st 5 (.tmp 12) (.tmp 111)⟩] [] [2, 6, 7, 9, 11, 12, 37, 38, 39, 100, 101, 102])
  (.seq
  (.reg [⟨some 112, none, .mv (.tmp 6)⟩,
    ⟨some 113, none, .len (.tmp 112)⟩,
    ⟨some 114, none, .bin .neq (.tmp 113) (.val (.int .i64 1))⟩,
    ⟨some 115, none, .mv (.tmp 114)⟩,
    ⟨some 116, (some (115, true)), .faddr 0 (.tmp 11)⟩,
    ⟨some 117, (some (115, true)), .ld none (.tmp 116)⟩,
    ⟨some 118, (some (115, true)), .faddr 0 (.tmp 12)⟩,
    ⟨some 119, (some (115, true)), .ld none (.tmp 118)⟩,
    ⟨some 120, (some (115, true)), .bin .neq (.tmp 117) (.tmp 119)⟩,
    ⟨some 121, none, .pick (.tmp 115) (.tmp 120) (.val (.bool false))⟩,
    ⟨some 122, none, .mv (.tmp 121)⟩,
    ⟨some 123, (some (122, true)), .faddr 0 (.tmp 11)⟩,
    ⟨some 124, (some (122, true)), .ld none (.tmp 123)⟩,
    ⟨some 125, (some (122, true)), .bin .eql (.tmp 124) (.val (.int .i64 (-1)))⟩,
    ⟨some 126, (some (122, true)), .mv (.tmp 125)⟩,
    ⟨some 127, (some (126, true)), .faddr 1 (.tmp 12)⟩,
    ⟨some 128, (some (126, true)), .ld none (.tmp 127)⟩,
    ⟨some 129, (some (126, true)), .bin .eql (.tmp 128) (.val (.int .i64 2))⟩,
    ⟨some 130, (some (122, true)), .pick (.tmp 126) (.tmp 129) (.val (.bool false))⟩,
    ⟨some 131, (some (122, true)), .mv (.tmp 130)⟩,
    ⟨some 132, (some (131, true)), .faddr 0 (.tmp 2)⟩,
    ⟨some 133, (some (131, true)), .faddr 0 (.tmp 132)⟩,
    ⟨some 134, (some (131, true)), .ld none (.tmp 133)⟩,
    ⟨some 135, (some (131, true)), .faddr 0 (.tmp 12)⟩,
    ⟨some 136, (some (131, true)), .ld none (.tmp 135)⟩,
    ⟨some 137, (some (131, true)), .iaS 2 (.tmp 134) (.tmp 136)⟩,
    ⟨some 138, (some (131, true)), .faddr 0 (.tmp 137)⟩,
    ⟨some 139, (some (131, true)), .ld none (.tmp 138)⟩,
    ⟨some 140, (some (131, true)), .bin .eql (.tmp 139) (.val (.int .i64 0))⟩,
    ⟨some 141, (some (122, true)), .pick (.tmp 131) (.tmp 140) (.val (.bool false))⟩,
    ⟨some 142, (some (122, true)), .un .not (.tmp 141)⟩,
    ⟨some 143, none, .pick (.tmp 122) (.tmp 142) (.val (.bool false))⟩,
    ⟨some 144, none, .mv (.tmp 143)⟩,
    ⟨some 145, (some (144, true)), .faddr 0 (.tmp 12)⟩,
    ⟨some 146, (some (144, true)), .ld none (.tmp 145)⟩,
    ⟨some 147, (some (144, true)), .bin .lss (.tmp 146) (.val (.int .i64 0))⟩,
    ⟨some 148, (some (144, true)), .mv (.tmp 147)⟩,
    ⟨some 149, (some (148, false)), .faddr 0 (.tmp 11)⟩,
    ⟨some 150, (some (148, false)), .ld none (.tmp 149)⟩,
    ⟨some 151, (some (148, false)), .bin .lss (.tmp 150) (.val (.int .i64 0))⟩,
    ⟨some 152, (some (144, true)), .pick (.tmp 148) (.val (.bool true)) (.tmp 151)⟩,
    ⟨some 153, (some (144, true)), .mv (.tmp 152)⟩,
    ⟨some 154, (some (153, false)), .faddr 0 (.tmp 2)⟩,
    ⟨some 155, (some (153, false)), .ld (some 2) (.tmp 154)⟩,
    ⟨some 156, (some (153, false)), .faddr 0 (.tmp 12)⟩,
    ⟨some 157, (some (153, false)), .ld none (.tmp 156)⟩,
    ⟨some 158, (some (153, false)), .faddr 0 (.tmp 11)⟩,
    ⟨some 159, (some (153, false)), .ld none (.tmp 158)⟩,
    ⟨some 160, (some (153, false)), .call 34 .pure [(.tmp 155), (.tmp 157), (.tmp 159)]⟩,
    ⟨some 161, (some (153, false)), .un .not (.tmp 160)⟩,
    ⟨some 162, (some (144, true)), .pick (.tmp 153) (.val (.bool true)) (.tmp 161)⟩,
    ⟨some 163, none, .pick (.tmp 144) (.tmp 162) (.val (.bool false))⟩] [] [2, 6, 7, 9, 37, 38, 39, 100, 101, 102, 163])
  (.cond (.tmp 163)
  (.seq
  (.reg [⟨some 4, none, .mv (.val (.bool false))⟩] [] [4])
  (.ret))
  (.skip))))))
  (.reg [⟨some 164, none, .bin .add (.tmp 102) (.val (.int .i64 1))⟩,
    ⟨some 102, none, .mv (.tmp 164)⟩] [] [2, 6, 7, 9, 37, 38, 39, 100, 101, 102]))))))))
  (.seq
  (.seq
  (.reg [⟨some 165, none, .mv (.tmp 9)⟩,
    ⟨some 166, none, .len (.tmp 165)⟩,
    ⟨some 167, none, .mv (.val (.int .i64 0))⟩] [] [2, 7, 37, 38, 39, 165, 166, 167])
  (.blk 5 (.loop (.trim (.seq
  (.reg [⟨some 168, none, .bin .lss (.tmp 167) (.tmp 166)⟩] [] [2, 7, 37, 38, 39, 165, 166, 167, 168])
  (.seq
  (.cond (.tmp 168)
  (.skip)
  (.ext 5))
  (.seq
  (.blk 6 (.seq
  (.reg [⟨some 169, none, .iaS 1 (.tmp 165) (.tmp 167)⟩,
    ⟨some 170, none, .ld none (.tmp 169)⟩,
    ⟨some 14, none, .mv (.tmp 170)⟩] [] [2, 7, 14, 37, 38, 39, 165, 166, 167])
  (.seq
  (.seq
  (.reg [⟨some 171, none, .mv (.tmp 14)⟩,
    ⟨some 172, none, .bin .lss (.tmp 171) (.val (.int .i64 0))⟩,
    ⟨some 173, none, .mv (.tmp 172)⟩,
    ⟨some 174, (some (173, false)), .mv (.tmp 14)⟩,
    ⟨some 175, (some (173, false)), .faddr 2 (.tmp 2)⟩,
    ⟨some 176, (some (173, false)), .ld none (.tmp 175)⟩,
    ⟨some 177, (some (173, false)), .len (.tmp 176)⟩,
    ⟨some 178, (some (173, false)), .bin .geq (.tmp 174) (.tmp 177)⟩,
    ⟨some 179, none, .pick (.tmp 173) (.val (.bool true)) (.tmp 178)⟩] [] [2, 7, 14, 37, 38, 39, 165, 166, 167, 179])
  (.cond (.tmp 179)
  (.seq
  (.reg [⟨some 4, none, .mv (.val (.bool false))⟩] [] [4])
  (.ret))
  (.skip)))
  (.seq
  (.reg [⟨some 180, none, .faddr 2 (.tmp 7)⟩,
    ⟨some 181, none, .ld none (.tmp 180)⟩,
    ⟨some 182, none, .mv (.tmp 14)⟩,
    ⟨some 183, none, .iaS 5 (.tmp 181) (.tmp 182)⟩,
    ⟨some 184, none, .ld (some 5) (.tmp 183)⟩,
    ⟨some 185, none, .faddr 2 (.tmp 2)⟩,
    ⟨some 186, none, .ld none (.tmp 185)⟩,
    ⟨some 187, none, .mv (.tmp 14)⟩,
    ⟨some 188, none, .iaS 5 (.tmp 186) (.tmp 187)⟩,
    ⟨some 189, none, .ld (some 5) (.tmp 188)⟩,
    ⟨some 15, none, .zer 47 (.agg [(.int .i64 0), (.int .i64 0), (.int .i64 0), (.int .i64 0), (.int .i64 0)])⟩,
    ⟨some 16, none, .zer 47 (.agg [(.int .i64 0), (.int .i64 0), (.int .i64 0), (.int .i64 0), (.int .i64 0)])⟩,
    ⟨none, none, .st 5 (.tmp 15) (.tmp 184)⟩,
    ⟨none, none, .st 5 (.tmp 16) (.tmp 189)⟩] [(1, 0), (4, 0), (6, 0), (6, 12), (6, 13), (9, 0), (9, 12), (9, 13)] [2, 7, 15, 16, 37, 38, 39, 165, 166, 167])
  (.seq
  (.reg [⟨some 190, none, .faddr 1 (.tmp 15)⟩,
    ⟨some 191, none, .ld none (.tmp 190)⟩,
    ⟨some 192, none, .bin .neq (.tmp 191) (.val (.int .i64 0))⟩,
    ⟨some 193, none, .mv (.tmp 192)⟩,
    ⟨some 194, (some (193, false)), .faddr 1 (.tmp 16)⟩,
    ⟨some 195, (some (193, false)), .ld none (.tmp 194)⟩,
    ⟨some 196, (some (193, false)), .bin .eql (.tmp 195) (.val (.int .i64 1))⟩,
    ⟨some 197, (some (193, false)), .mv (.tmp 196)⟩,
    ⟨some 198, (some (197, true)), .faddr 0 (.tmp 7)⟩,
    ⟨some 199, (some (197, true)), .faddr 0 (.tmp 198)⟩,
    ⟨some 200, (some (197, true)), .ld none (.tmp 199)⟩,
    ⟨some 201, (some (197, true)), .faddr 0 (.tmp 15)⟩,
    ⟨some 202, (some (197, true)), .ld none (.tmp 201)⟩,
    ⟨some 203, (some (197, true)), .mx (.tmp 202) [(.val (.int .i64 0))]⟩,
    ⟨some 204, (some (197, true)), .iaS 2 (.tmp 200) (.tmp 203)⟩,
    ⟨some 205, (some (197, true)), .faddr 0 (.tmp 204)⟩,
    ⟨some 206, (some (197, true)), .ld none (.tmp 205)⟩,
    ⟨some 207, (some (197, true)), .bin .neq (.tmp 206) (.val (.int .i64 3))⟩,
    ⟨some 208, (some (193, false)), .pick (.tmp 197) (.tmp 207) (.val (.bool false))⟩,
    ⟨some 209, none, .pick (.tmp 193) (.val (.bool true)) (.tmp 208)⟩,
    ⟨some 210, none, .mv (.tmp 209)⟩,
    ⟨some 211, (some (210, false)), .faddr 1 (.tmp 16)⟩,
    ⟨some 212, (some (210, false)), .ld none (.tmp 211)⟩,
    ⟨some 213, (some (210, false)), .bin .eql (.tmp 212) (.val (.int .i64 2))⟩,
    ⟨some 214, (some (210, false)), .mv (.tmp 213)⟩,
    ⟨some 215, (some (214, true)), .faddr 0 (.tmp 15)⟩,
    ⟨some 216, (some (214, true)), .ld none (.tmp 215)⟩,
    ⟨some 217, (some (214, true)), .bin .neq (.tmp 216) (.val (.int .i64 (-1)))⟩,
    ⟨some 218, (some (210, false)), .pick (.tmp 214) (.tmp 217) (.val (.bool false))⟩,
    ⟨some 219, none, .pick (.tmp 210) (.val (.bool true)) (.tmp 218)⟩] [] [2, 7, 37, 38, 39, 165, 166, 167, 219])
  (.cond (.tmp 219)
  (.seq
  (.reg [⟨some 4, none, .mv (.val (.bool false))⟩] [] [4])
  (.ret))
  (.skip)))))))
  (.reg [⟨some 220, none, .bin .add (.tmp 167) (.val (.int .i64 1))⟩,
    ⟨some 167, none, .mv (.tmp 220)⟩] [] [2, 7, 37, 38, 39, 165, 166, 167]))))))))
  (.reg [⟨some 221, none, .ld (some 4) (.tmp 7)⟩,
    ⟨none, none, .st 4 (.tmp 2) (.tmp 221)⟩] [] [2, 37, 38, 39]))))))))))
  (.reg [⟨some 222, none, .bin .add (.tmp 39) (.val (.int .i64 1))⟩,
    ⟨some 39, none, .mv (.tmp 222)⟩] [] [2, 37, 38, 39]))))))))
  (.seq
  (.reg [⟨some 223, none, .call 14 .pure []⟩,
    ⟨some 4, none, .mv (.tmp 223)⟩] [] [4])
  (.ret))))⟩
theorem pf12_ok : fnOk Try.prog 12 pf12 = true := by kernel_rfl

def mth : Nat → String → Option Nat := fun t s =>
  if t = 78 ∧ s = "hinterland/air.many" then some 75 else if t = 78 ∧ s = "hinterland/air.ends" then some 74 else if t = 80 ∧ s = "hinterland/air.many" then some 77 else if t = 80 ∧ s = "hinterland/air.ends" then some 76 else none
theorem mth_ok : MethOk Try.prog mth := by
  intro t s f h v w
  unfold mth at h
  split at h
  · rename_i q; obtain ⟨rfl, rfl⟩ := q; simp only [Option.some.injEq] at h; subst h
    exact ⟨by kernel_rfl, by kernel_rfl⟩
  split at h
  · rename_i q; obtain ⟨rfl, rfl⟩ := q; simp only [Option.some.injEq] at h; subst h
    exact ⟨by kernel_rfl, by kernel_rfl⟩
  split at h
  · rename_i q; obtain ⟨rfl, rfl⟩ := q; simp only [Option.some.injEq] at h; subst h
    exact ⟨by kernel_rfl, by kernel_rfl⟩
  split at h
  · rename_i q; obtain ⟨rfl, rfl⟩ := q; simp only [Option.some.injEq] at h; subst h
    exact ⟨by kernel_rfl, by kernel_rfl⟩
  · cases h
/-- The functions. -/
def tb : Table := ⟨[(74, pf74), (75, pf75), (76, pf76), (77, pf77), (58, pf58), (57, pf57), (56, pf56), (55, pf55), (54, pf54), (53, pf53), (52, pf52), (51, pf51), (50, pf50), (49, pf49), (48, pf48), (47, pf47), (46, pf46), (45, pf45), (44, pf44), (43, pf43), (42, pf42), (41, pf41), (40, pf40), (39, pf39), (38, pf38), (37, pf37), (36, pf36), (35, pf35), (34, pf34), (33, pf33), (32, pf32), (31, pf31), (30, pf30), (29, pf29), (28, pf28), (27, pf27), (26, pf26), (25, pf25), (24, pf24), (23, pf23), (22, pf22), (21, pf21), (20, pf20), (19, pf19), (18, pf18), (17, pf17), (16, pf16), (15, pf15), (14, pf14), (13, pf13), (11, pf11), (10, pf10), (9, pf9), (8, pf8), (7, pf7), (6, pf6), (5, pf5), (4, pf4), (3, pf3), (12, pf12)], fun _ _ => none, fun _ _ _ => none, mth, fun _ _ => none⟩
theorem tb_fns : ∀ x ∈ tb.fns, fnOk Try.prog x.1 x.2 = true :=
  List.forall_mem_cons.2 ⟨pf74_ok, List.forall_mem_cons.2 ⟨pf75_ok, List.forall_mem_cons.2 ⟨pf76_ok, List.forall_mem_cons.2 ⟨pf77_ok, List.forall_mem_cons.2 ⟨pf58_ok, List.forall_mem_cons.2 ⟨pf57_ok, List.forall_mem_cons.2 ⟨pf56_ok, List.forall_mem_cons.2 ⟨pf55_ok, List.forall_mem_cons.2 ⟨pf54_ok, List.forall_mem_cons.2 ⟨pf53_ok, List.forall_mem_cons.2 ⟨pf52_ok, List.forall_mem_cons.2 ⟨pf51_ok, List.forall_mem_cons.2 ⟨pf50_ok, List.forall_mem_cons.2 ⟨pf49_ok, List.forall_mem_cons.2 ⟨pf48_ok, List.forall_mem_cons.2 ⟨pf47_ok, List.forall_mem_cons.2 ⟨pf46_ok, List.forall_mem_cons.2 ⟨pf45_ok, List.forall_mem_cons.2 ⟨pf44_ok, List.forall_mem_cons.2 ⟨pf43_ok, List.forall_mem_cons.2 ⟨pf42_ok, List.forall_mem_cons.2 ⟨pf41_ok, List.forall_mem_cons.2 ⟨pf40_ok, List.forall_mem_cons.2 ⟨pf39_ok, List.forall_mem_cons.2 ⟨pf38_ok, List.forall_mem_cons.2 ⟨pf37_ok, List.forall_mem_cons.2 ⟨pf36_ok, List.forall_mem_cons.2 ⟨pf35_ok, List.forall_mem_cons.2 ⟨pf34_ok, List.forall_mem_cons.2 ⟨pf33_ok, List.forall_mem_cons.2 ⟨pf32_ok, List.forall_mem_cons.2 ⟨pf31_ok, List.forall_mem_cons.2 ⟨pf30_ok, List.forall_mem_cons.2 ⟨pf29_ok, List.forall_mem_cons.2 ⟨pf28_ok, List.forall_mem_cons.2 ⟨pf27_ok, List.forall_mem_cons.2 ⟨pf26_ok, List.forall_mem_cons.2 ⟨pf25_ok, List.forall_mem_cons.2 ⟨pf24_ok, List.forall_mem_cons.2 ⟨pf23_ok, List.forall_mem_cons.2 ⟨pf22_ok, List.forall_mem_cons.2 ⟨pf21_ok, List.forall_mem_cons.2 ⟨pf20_ok, List.forall_mem_cons.2 ⟨pf19_ok, List.forall_mem_cons.2 ⟨pf18_ok, List.forall_mem_cons.2 ⟨pf17_ok, List.forall_mem_cons.2 ⟨pf16_ok, List.forall_mem_cons.2 ⟨pf15_ok, List.forall_mem_cons.2 ⟨pf14_ok, List.forall_mem_cons.2 ⟨pf13_ok, List.forall_mem_cons.2 ⟨pf11_ok, List.forall_mem_cons.2 ⟨pf10_ok, List.forall_mem_cons.2 ⟨pf9_ok, List.forall_mem_cons.2 ⟨pf8_ok, List.forall_mem_cons.2 ⟨pf7_ok, List.forall_mem_cons.2 ⟨pf6_ok, List.forall_mem_cons.2 ⟨pf5_ok, List.forall_mem_cons.2 ⟨pf4_ok, List.forall_mem_cons.2 ⟨pf3_ok, List.forall_mem_cons.2 ⟨pf12_ok,  fun _ h => (List.not_mem_nil h).elim⟩⟩⟩⟩⟩⟩⟩⟩⟩⟩⟩⟩⟩⟩⟩⟩⟩⟩⟩⟩⟩⟩⟩⟩⟩⟩⟩⟩⟩⟩⟩⟩⟩⟩⟩⟩⟩⟩⟩⟩⟩⟩⟩⟩⟩⟩⟩⟩⟩⟩⟩⟩⟩⟩⟩⟩⟩⟩⟩⟩
theorem tb_ok : TOk Try.prog tb := ⟨tb_fns, fun _ _ _ h => (by cases h), fun _ _ _ _ _ h => (by cases h), mth_ok, fun _ _ _ h => (by cases h), (by kernel_rfl)⟩
end Go.Proofs.Ytmbknidfkddpfaa
