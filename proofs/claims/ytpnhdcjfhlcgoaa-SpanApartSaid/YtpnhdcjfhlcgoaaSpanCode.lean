/- PCode of functions, written by wip/tools/gen.py out of the loaded functions' print. -/
import Derived.Test.YtpnhdcjfhlcgoaaPmTwenty
import Derived.Test.YtpnhdcjfhlcgoaaProg
import Derived.KernelRfl
set_option maxRecDepth 100000
namespace Go.Proofs.Ytpnhdcjfhlcgoaa
open Go.Proofs.Ytpnhdcjfhlcgoaa.PM

/-- hinterland/hinterlandlaw05.far -/
def pf12 : PFn := ⟨14, 2, [.tmp 4], .seq
  (.reg [⟨some 2, none, .boxp 24 (.tmp 0)⟩,
    ⟨some 4, none, .mv (.val (.bool false))⟩] [] [1, 2])
  (.seq
  (.reg [⟨some 5, none, .faddr 2 (.tmp 2)⟩,
    ⟨some 6, none, .ld none (.tmp 5)⟩,
    ⟨some 7, none, .len (.tmp 6)⟩,
    ⟨some 8, none, .bin .gtr (.tmp 7) (.val (.int .i64 3000))⟩,
    ⟨some 9, none, .mv (.tmp 8)⟩,
    ⟨some 10, (some (9, false)), .mv (.tmp 1)⟩,
    ⟨some 11, (some (9, false)), .len (.tmp 10)⟩,
    ⟨some 12, (some (9, false)), .bin .gtr (.tmp 11) (.val (.int .i64 300))⟩,
    ⟨some 13, none, .pick (.tmp 9) (.val (.bool true)) (.tmp 12)⟩,
    ⟨some 4, none, .mv (.tmp 13)⟩] [] [4])
  (.ret))⟩
theorem pf12_ok : fnOk Try.prog 12 pf12 = true := by kernel_rfl

/-- hinterland/land.apart -/
def pf59 : PFn := ⟨15, 2, [.tmp 4], .seq
  (.reg [⟨some 4, none, .mv (.val (.bool false))⟩] [] [0, 1])
  (.seq
  (.reg [⟨some 5, none, .mv (.tmp 0)⟩,
    ⟨some 6, none, .mv (.tmp 1)⟩,
    ⟨some 7, none, .bin .sub (.tmp 5) (.tmp 6)⟩,
    ⟨some 8, none, .bin .gtr (.tmp 7) (.val (.int .i64 1))⟩,
    ⟨some 9, none, .mv (.tmp 8)⟩,
    ⟨some 10, (some (9, false)), .mv (.tmp 1)⟩,
    ⟨some 11, (some (9, false)), .mv (.tmp 0)⟩,
    ⟨some 12, (some (9, false)), .bin .sub (.tmp 10) (.tmp 11)⟩,
    ⟨some 13, (some (9, false)), .bin .gtr (.tmp 12) (.val (.int .i64 1))⟩,
    ⟨some 14, none, .pick (.tmp 9) (.val (.bool true)) (.tmp 13)⟩,
    ⟨some 4, none, .mv (.tmp 14)⟩] [] [4])
  (.ret))⟩
theorem pf59_ok : fnOk Try.prog 59 pf59 = true := by kernel_rfl

/-- hinterland/land.Validate -/
def pf31 : PFn := ⟨118, 1, [.tmp 2], .seq
  (.reg [⟨some 1, none, .boxp 24 (.tmp 0)⟩,
    ⟨some 2, none, .mv (.val (.int .i64 0))⟩] [] [1])
  (.seq
  (.seq
  (.reg [⟨some 8, none, .faddr 0 (.tmp 1)⟩,
    ⟨some 9, none, .ld none (.tmp 8)⟩,
    ⟨some 10, none, .bin .lss (.tmp 9) (.val (.int .i64 4))⟩,
    ⟨some 11, none, .mv (.tmp 10)⟩,
    ⟨some 12, (some (11, false)), .faddr 0 (.tmp 1)⟩,
    ⟨some 13, (some (11, false)), .ld none (.tmp 12)⟩,
    ⟨some 14, (some (11, false)), .bin .gtr (.tmp 13) (.val (.int .i64 32))⟩,
    ⟨some 15, none, .pick (.tmp 11) (.val (.bool true)) (.tmp 14)⟩,
    ⟨some 16, none, .mv (.tmp 15)⟩,
    ⟨some 17, (some (16, false)), .faddr 1 (.tmp 1)⟩,
    ⟨some 18, (some (16, false)), .ld none (.tmp 17)⟩,
    ⟨some 19, (some (16, false)), .bin .lss (.tmp 18) (.val (.int .i64 4))⟩,
    ⟨some 20, none, .pick (.tmp 16) (.val (.bool true)) (.tmp 19)⟩,
    ⟨some 21, none, .mv (.tmp 20)⟩,
    ⟨some 22, (some (21, false)), .faddr 1 (.tmp 1)⟩,
    ⟨some 23, (some (21, false)), .ld none (.tmp 22)⟩,
    ⟨some 24, (some (21, false)), .bin .gtr (.tmp 23) (.val (.int .i64 32))⟩,
    ⟨some 25, none, .pick (.tmp 21) (.val (.bool true)) (.tmp 24)⟩,
    ⟨some 26, none, .mv (.tmp 25)⟩,
    ⟨some 27, (some (26, false)), .faddr 2 (.tmp 1)⟩,
    ⟨some 28, (some (26, false)), .ld none (.tmp 27)⟩,
    ⟨some 29, (some (26, false)), .len (.tmp 28)⟩,
    ⟨some 30, (some (26, false)), .faddr 0 (.tmp 1)⟩,
    ⟨some 31, (some (26, false)), .ld none (.tmp 30)⟩,
    ⟨some 32, (some (26, false)), .bin .add (.tmp 31) (.val (.int .i64 1))⟩,
    ⟨some 33, (some (26, false)), .faddr 1 (.tmp 1)⟩,
    ⟨some 34, (some (26, false)), .ld none (.tmp 33)⟩,
    ⟨some 35, (some (26, false)), .bin .add (.tmp 34) (.val (.int .i64 1))⟩,
    ⟨some 36, (some (26, false)), .bin .mul (.tmp 32) (.tmp 35)⟩,
    ⟨some 37, (some (26, false)), .bin .neq (.tmp 29) (.tmp 36)⟩,
    ⟨some 38, none, .pick (.tmp 26) (.val (.bool true)) (.tmp 37)⟩] [] [1, 38])
  (.cond (.tmp 38)
  (.seq
  (.reg [⟨some 2, none, .mv (.val (.int .i64 1))⟩] [] [2])
  (.ret))
  (.skip)))
  (.seq
  (.seq
  (.reg [⟨some 39, none, .faddr 2 (.tmp 1)⟩,
    ⟨some 40, none, .ld none (.tmp 39)⟩,
    ⟨some 41, none, .len (.tmp 40)⟩,
    ⟨some 42, none, .mv (.val (.int .i64 0))⟩] [] [1, 40, 41, 42])
  (.blk 0 (.loop (.seq
  (.reg [⟨some 43, none, .bin .lss (.tmp 42) (.tmp 41)⟩] [] [1, 40, 41, 42, 43])
  (.seq
  (.cond (.tmp 43)
  (.skip)
  (.ext 0))
  (.seq
  (.blk 1 (.seq
  (.reg [⟨some 44, none, .iaS 1 (.tmp 40) (.tmp 42)⟩,
    ⟨some 45, none, .ld none (.tmp 44)⟩,
    ⟨some 4, none, .mv (.tmp 45)⟩] [] [1, 4, 40, 41, 42])
  (.seq
  (.reg [⟨some 46, none, .mv (.tmp 4)⟩,
    ⟨some 47, none, .bin .lss (.tmp 46) (.val (.int .i64 0))⟩,
    ⟨some 48, none, .mv (.tmp 47)⟩,
    ⟨some 49, (some (48, false)), .mv (.tmp 4)⟩,
    ⟨some 50, (some (48, false)), .bin .gtr (.tmp 49) (.val (.int .i64 15))⟩,
    ⟨some 51, none, .pick (.tmp 48) (.val (.bool true)) (.tmp 50)⟩] [] [1, 40, 41, 42, 51])
  (.cond (.tmp 51)
  (.seq
  (.reg [⟨some 2, none, .mv (.val (.int .i64 1))⟩] [] [2])
  (.ret))
  (.skip)))))
  (.reg [⟨some 52, none, .bin .add (.tmp 42) (.val (.int .i64 1))⟩,
    ⟨some 42, none, .mv (.tmp 52)⟩] [] [1, 40, 41, 42])))))))
  (.seq
  (.seq
  (.reg [⟨some 5, none, .mv (.val (.int .i64 0))⟩] [] [1, 5])
  (.blk 2 (.loop (.seq
  (.seq
  (.reg [⟨some 53, none, .mv (.tmp 5)⟩,
    ⟨some 54, none, .faddr 1 (.tmp 1)⟩,
    ⟨some 55, none, .ld none (.tmp 54)⟩,
    ⟨some 56, none, .bin .leq (.tmp 53) (.tmp 55)⟩] [] [1, 5, 56])
  (.cond (.tmp 56)
  (.skip)
  (.ext 2)))
  (.seq
  (.blk 3 (.seq
  (.reg [⟨some 6, none, .mv (.val (.int .i64 0))⟩] [] [1, 5, 6])
  (.blk 4 (.loop (.seq
  (.seq
  (.reg [⟨some 59, none, .mv (.tmp 6)⟩,
    ⟨some 60, none, .faddr 0 (.tmp 1)⟩,
    ⟨some 61, none, .ld none (.tmp 60)⟩,
    ⟨some 62, none, .bin .leq (.tmp 59) (.tmp 61)⟩] [] [1, 5, 6, 62])
  (.cond (.tmp 62)
  (.skip)
  (.ext 4)))
  (.seq
  (.blk 5 (.seq
  (.reg [⟨some 65, none, .faddr 2 (.tmp 1)⟩,
    ⟨some 66, none, .ld none (.tmp 65)⟩,
    ⟨some 67, none, .mv (.tmp 5)⟩,
    ⟨some 68, none, .faddr 0 (.tmp 1)⟩,
    ⟨some 69, none, .ld none (.tmp 68)⟩,
    ⟨some 70, none, .bin .add (.tmp 69) (.val (.int .i64 1))⟩,
    ⟨some 71, none, .bin .mul (.tmp 67) (.tmp 70)⟩,
    ⟨some 72, none, .mv (.tmp 6)⟩,
    ⟨some 73, none, .bin .add (.tmp 71) (.tmp 72)⟩,
    ⟨some 74, none, .iaS 1 (.tmp 66) (.tmp 73)⟩,
    ⟨some 75, none, .ld none (.tmp 74)⟩,
    ⟨some 7, none, .mv (.tmp 75)⟩] [] [1, 5, 6, 7])
  (.seq
  (.reg [⟨some 76, none, .mv (.tmp 6)⟩,
    ⟨some 77, none, .faddr 0 (.tmp 1)⟩,
    ⟨some 78, none, .ld none (.tmp 77)⟩,
    ⟨some 79, none, .bin .lss (.tmp 76) (.tmp 78)⟩,
    ⟨some 80, none, .mv (.tmp 79)⟩,
    ⟨some 81, (some (80, true)), .mv (.tmp 7)⟩,
    ⟨some 82, (some (80, true)), .faddr 2 (.tmp 1)⟩,
    ⟨some 83, (some (80, true)), .ld none (.tmp 82)⟩,
    ⟨some 84, (some (80, true)), .mv (.tmp 5)⟩,
    ⟨some 85, (some (80, true)), .faddr 0 (.tmp 1)⟩,
    ⟨some 86, (some (80, true)), .ld none (.tmp 85)⟩,
    ⟨some 87, (some (80, true)), .bin .add (.tmp 86) (.val (.int .i64 1))⟩,
    ⟨some 88, (some (80, true)), .bin .mul (.tmp 84) (.tmp 87)⟩,
    ⟨some 89, (some (80, true)), .mv (.tmp 6)⟩,
    ⟨some 90, (some (80, true)), .bin .add (.tmp 88) (.tmp 89)⟩,
    ⟨some 91, (some (80, true)), .bin .add (.tmp 90) (.val (.int .i64 1))⟩,
    ⟨some 92, (some (80, true)), .iaS 1 (.tmp 83) (.tmp 91)⟩,
    ⟨some 93, (some (80, true)), .ld none (.tmp 92)⟩,
    ⟨some 94, (some (80, true)), .call 59 .pure [(.tmp 81), (.tmp 93)]⟩,
    ⟨some 95, none, .pick (.tmp 80) (.tmp 94) (.val (.bool false))⟩,
    ⟨some 96, none, .mv (.tmp 95)⟩,
    ⟨some 97, (some (96, false)), .mv (.tmp 5)⟩,
    ⟨some 98, (some (96, false)), .faddr 1 (.tmp 1)⟩,
    ⟨some 99, (some (96, false)), .ld none (.tmp 98)⟩,
    ⟨some 100, (some (96, false)), .bin .lss (.tmp 97) (.tmp 99)⟩,
    ⟨some 101, (some (96, false)), .mv (.tmp 100)⟩,
    ⟨some 102, (some (101, true)), .mv (.tmp 7)⟩,
    ⟨some 103, (some (101, true)), .faddr 2 (.tmp 1)⟩,
    ⟨some 104, (some (101, true)), .ld none (.tmp 103)⟩,
    ⟨some 105, (some (101, true)), .mv (.tmp 5)⟩,
    ⟨some 106, (some (101, true)), .bin .add (.tmp 105) (.val (.int .i64 1))⟩,
    ⟨some 107, (some (101, true)), .faddr 0 (.tmp 1)⟩,
    ⟨some 108, (some (101, true)), .ld none (.tmp 107)⟩,
    ⟨some 109, (some (101, true)), .bin .add (.tmp 108) (.val (.int .i64 1))⟩,
    ⟨some 110, (some (101, true)), .bin .mul (.tmp 106) (.tmp 109)⟩,
    ⟨some 111, (some (101, true)), .mv (.tmp 6)⟩,
    ⟨some 112, (some (101, true)), .bin .add (.tmp 110) (.tmp 111)⟩,
    ⟨some 113, (some (101, true)), .iaS 1 (.tmp 104) (.tmp 112)⟩,
    ⟨some 114, (some (101, true)), .ld none (.tmp 113)⟩,
    ⟨some 115, (some (101, true)), .call 59 .pure [(.tmp 102), (.tmp 114)]⟩,
    ⟨some 116, (some (96, false)), .pick (.tmp 101) (.tmp 115) (.val (.bool false))⟩,
    ⟨some 117, none, .pick (.tmp 96) (.val (.bool true)) (.tmp 116)⟩] [] [1, 5, 6, 117])
  (.cond (.tmp 117)
  (.seq
  (.reg [⟨some 2, none, .mv (.val (.int .i64 5))⟩] [] [2])
  (.ret))
  (.skip)))))
  (.reg [⟨some 63, none, .mv (.tmp 6)⟩,
    ⟨some 64, none, .bin .add (.tmp 63) (.val (.int .i64 1))⟩,
    ⟨some 6, none, .mv (.tmp 64)⟩] [] [1, 5, 6])))))))
  (.reg [⟨some 57, none, .mv (.tmp 5)⟩,
    ⟨some 58, none, .bin .add (.tmp 57) (.val (.int .i64 1))⟩,
    ⟨some 5, none, .mv (.tmp 58)⟩] [] [1, 5]))))))
  (.seq
  (.reg [⟨some 2, none, .mv (.val (.int .i64 0))⟩] [] [2])
  (.ret)))))⟩
theorem pf31_ok : fnOk Try.prog 31 pf31 = true := by kernel_rfl

/-- hinterland/span.step -/
def pf39 : PFn := ⟨38, 2, [.tmp 4, .tmp 5], .seq
  (.reg [⟨some 2, none, .boxp 24 (.tmp 0)⟩,
    ⟨some 3, none, .boxp 26 (.tmp 1)⟩,
    ⟨some 4, none, .mv (.val (.int .i64 0))⟩,
    ⟨some 5, none, .mv (.val (.int .i64 0))⟩] [] [2, 3])
  (.seq
  (.blk 0 (.seq
  (.reg [⟨some 7, none, .faddr 1 (.tmp 3)⟩,
    ⟨some 8, none, .ld none (.tmp 7)⟩,
    ⟨some 9, none, .faddr 2 (.tmp 3)⟩,
    ⟨some 10, none, .ld none (.tmp 9)⟩,
    ⟨some 11, none, .bin .geq (.tmp 8) (.tmp 10)⟩,
    ⟨some 6, none, .mv (.tmp 11)⟩] [] [2, 3, 6])
  (.cond (.tmp 6)
  (.seq
  (.reg [⟨some 4, none, .mv (.val (.int .i64 0))⟩,
    ⟨some 5, none, .mv (.val (.int .i64 0))⟩] [] [4, 5])
  (.ret))
  (.seq
  (.reg [⟨some 13, none, .faddr 1 (.tmp 3)⟩,
    ⟨some 14, none, .ld none (.tmp 13)⟩,
    ⟨some 15, none, .faddr 0 (.tmp 2)⟩,
    ⟨some 16, none, .ld none (.tmp 15)⟩,
    ⟨some 17, none, .bin .quo (.tmp 14) (.tmp 16)⟩,
    ⟨some 18, none, .faddr 2 (.tmp 3)⟩,
    ⟨some 19, none, .ld none (.tmp 18)⟩,
    ⟨some 20, none, .faddr 0 (.tmp 2)⟩,
    ⟨some 21, none, .ld none (.tmp 20)⟩,
    ⟨some 22, none, .bin .quo (.tmp 19) (.tmp 21)⟩,
    ⟨some 23, none, .bin .eql (.tmp 17) (.tmp 22)⟩,
    ⟨some 12, none, .mv (.tmp 23)⟩] [] [2, 3, 12])
  (.cond (.tmp 12)
  (.seq
  (.reg [⟨some 4, none, .mv (.val (.int .i64 1))⟩,
    ⟨some 5, none, .mv (.val (.int .i64 0))⟩] [] [4, 5])
  (.ret))
  (.seq
  (.reg [⟨some 25, none, .faddr 1 (.tmp 3)⟩,
    ⟨some 26, none, .ld none (.tmp 25)⟩,
    ⟨some 27, none, .faddr 0 (.tmp 2)⟩,
    ⟨some 28, none, .ld none (.tmp 27)⟩,
    ⟨some 29, none, .bin .rem (.tmp 26) (.tmp 28)⟩,
    ⟨some 30, none, .faddr 2 (.tmp 3)⟩,
    ⟨some 31, none, .ld none (.tmp 30)⟩,
    ⟨some 32, none, .faddr 0 (.tmp 2)⟩,
    ⟨some 33, none, .ld none (.tmp 32)⟩,
    ⟨some 34, none, .bin .rem (.tmp 31) (.tmp 33)⟩,
    ⟨some 35, none, .bin .eql (.tmp 29) (.tmp 34)⟩,
    ⟨some 24, none, .mv (.tmp 35)⟩] [] [2, 24])
  (.cond (.tmp 24)
  (.seq
  (.reg [⟨some 36, none, .faddr 0 (.tmp 2)⟩,
    ⟨some 37, none, .ld none (.tmp 36)⟩,
    ⟨some 4, none, .mv (.tmp 37)⟩,
    ⟨some 5, none, .mv (.val (.int .i64 1))⟩] [] [4, 5])
  (.ret))
  (.skip))))))))
  (.seq
  (.reg [⟨some 4, none, .mv (.val (.int .i64 0))⟩,
    ⟨some 5, none, .mv (.val (.int .i64 0))⟩] [] [4, 5])
  (.ret)))⟩
theorem pf39_ok : fnOk Try.prog 39 pf39 = true := by kernel_rfl

/-- hinterland/span.length -/
def pf40 : PFn := ⟨21, 2, [.tmp 4], .seq
  (.reg [⟨some 2, none, .boxp 24 (.tmp 0)⟩,
    ⟨some 3, none, .boxp 26 (.tmp 1)⟩,
    ⟨some 4, none, .mv (.val (.int .i64 0))⟩] [] [2, 3])
  (.seq
  (.reg [⟨some 8, none, .ld (some 3) (.tmp 2)⟩,
    ⟨some 9, none, .ld (some 4) (.tmp 3)⟩,
    ⟨some 10, none, .call 39 .pure [(.tmp 8), (.tmp 9)]⟩,
    ⟨some 7, none, .mv (.tmp 10)⟩,
    ⟨some 11, none, .ext 0 (.tmp 7)⟩,
    ⟨some 12, none, .ext 1 (.tmp 7)⟩,
    ⟨some 5, none, .mv (.tmp 11)⟩,
    ⟨some 6, none, .mv (.tmp 12)⟩] [] [3, 5])
  (.seq
  (.reg [⟨some 13, none, .faddr 2 (.tmp 3)⟩,
    ⟨some 14, none, .ld none (.tmp 13)⟩,
    ⟨some 15, none, .faddr 1 (.tmp 3)⟩,
    ⟨some 16, none, .ld none (.tmp 15)⟩,
    ⟨some 17, none, .bin .sub (.tmp 14) (.tmp 16)⟩,
    ⟨some 18, none, .mv (.tmp 5)⟩,
    ⟨some 19, none, .bin .quo (.tmp 17) (.tmp 18)⟩,
    ⟨some 20, none, .bin .sub (.tmp 19) (.val (.int .i64 1))⟩,
    ⟨some 4, none, .mv (.tmp 20)⟩] [] [4])
  (.ret)))⟩
theorem pf40_ok : fnOk Try.prog 40 pf40 = true := by kernel_rfl

/-- hinterland/span.tile -/
def pf42 : PFn := ⟨16, 2, [.tmp 4], .seq
  (.reg [⟨some 2, none, .boxp 24 (.tmp 0)⟩,
    ⟨some 4, none, .mv (.val (.bool false))⟩] [] [1, 2])
  (.seq
  (.reg [⟨some 5, none, .mv (.tmp 1)⟩,
    ⟨some 6, none, .bin .geq (.tmp 5) (.val (.int .i64 0))⟩,
    ⟨some 7, none, .mv (.tmp 6)⟩,
    ⟨some 8, (some (7, true)), .mv (.tmp 1)⟩,
    ⟨some 9, (some (7, true)), .faddr 0 (.tmp 2)⟩,
    ⟨some 10, (some (7, true)), .ld none (.tmp 9)⟩,
    ⟨some 11, (some (7, true)), .faddr 1 (.tmp 2)⟩,
    ⟨some 12, (some (7, true)), .ld none (.tmp 11)⟩,
    ⟨some 13, (some (7, true)), .bin .mul (.tmp 10) (.tmp 12)⟩,
    ⟨some 14, (some (7, true)), .bin .lss (.tmp 8) (.tmp 13)⟩,
    ⟨some 15, none, .pick (.tmp 7) (.tmp 14) (.val (.bool false))⟩,
    ⟨some 4, none, .mv (.tmp 15)⟩] [] [4])
  (.ret))⟩
theorem pf42_ok : fnOk Try.prog 42 pf42 = true := by kernel_rfl

/-- hinterland/span.between -/
def pf48 : PFn := ⟨6, 2, [.tmp 4], .seq
  (.reg [⟨some 2, none, .boxp 24 (.tmp 0)⟩,
    ⟨some 3, none, .boxp 26 (.tmp 1)⟩,
    ⟨some 4, none, .mv (.val .nilfn)⟩] [] [2, 3])
  (.seq
  (.reg [⟨some 5, none, .mkf (.func 64) [] [(.tmp 2), (.tmp 3)]⟩,
    ⟨some 4, none, .mv (.tmp 5)⟩] [] [4])
  (.ret))⟩
theorem pf48_ok : fnOk Try.prog 48 pf48 = true := by kernel_rfl

/-- hinterland/span.corners -/
def pf83 : PFn := ⟨49, 2, [.cell 4 (some 4)], .seq
  (.reg [⟨some 2, none, .boxp 24 (.tmp 0)⟩,
    ⟨some 4, none, .zer 73 (.agg [(.int .i64 0), (.int .i64 0), (.int .i64 0), (.int .i64 0)])⟩] [] [1, 2, 4])
  (.seq
  (.reg [⟨some 6, none, .mv (.tmp 1)⟩,
    ⟨some 7, none, .faddr 0 (.tmp 2)⟩,
    ⟨some 8, none, .ld none (.tmp 7)⟩,
    ⟨some 9, none, .bin .quo (.tmp 6) (.tmp 8)⟩,
    ⟨some 10, none, .faddr 0 (.tmp 2)⟩,
    ⟨some 11, none, .ld none (.tmp 10)⟩,
    ⟨some 12, none, .bin .add (.tmp 11) (.val (.int .i64 1))⟩,
    ⟨some 13, none, .bin .mul (.tmp 9) (.tmp 12)⟩,
    ⟨some 14, none, .mv (.tmp 1)⟩,
    ⟨some 15, none, .faddr 0 (.tmp 2)⟩,
    ⟨some 16, none, .ld none (.tmp 15)⟩,
    ⟨some 17, none, .bin .rem (.tmp 14) (.tmp 16)⟩,
    ⟨some 18, none, .bin .add (.tmp 13) (.tmp 17)⟩,
    ⟨some 5, none, .mv (.tmp 18)⟩] [] [2, 4, 5])
  (.seq
  (.reg [⟨some 19, none, .faddr 2 (.tmp 2)⟩,
    ⟨some 20, none, .ld none (.tmp 19)⟩,
    ⟨some 21, none, .mv (.tmp 5)⟩,
    ⟨some 22, none, .iaS 1 (.tmp 20) (.tmp 21)⟩,
    ⟨some 23, none, .ld none (.tmp 22)⟩,
    ⟨some 24, none, .faddr 2 (.tmp 2)⟩,
    ⟨some 25, none, .ld none (.tmp 24)⟩,
    ⟨some 26, none, .mv (.tmp 5)⟩,
    ⟨some 27, none, .bin .add (.tmp 26) (.val (.int .i64 1))⟩,
    ⟨some 28, none, .iaS 1 (.tmp 25) (.tmp 27)⟩,
    ⟨some 29, none, .ld none (.tmp 28)⟩,
    ⟨some 30, none, .faddr 2 (.tmp 2)⟩,
    ⟨some 31, none, .ld none (.tmp 30)⟩,
    ⟨some 32, none, .mv (.tmp 5)⟩,
    ⟨some 33, none, .faddr 0 (.tmp 2)⟩,
    ⟨some 34, none, .ld none (.tmp 33)⟩,
    ⟨some 35, none, .bin .add (.tmp 32) (.tmp 34)⟩,
    ⟨some 36, none, .bin .add (.tmp 35) (.val (.int .i64 2))⟩,
    ⟨some 37, none, .iaS 1 (.tmp 31) (.tmp 36)⟩,
    ⟨some 38, none, .ld none (.tmp 37)⟩,
    ⟨some 39, none, .faddr 2 (.tmp 2)⟩,
    ⟨some 40, none, .ld none (.tmp 39)⟩,
    ⟨some 41, none, .mv (.tmp 5)⟩,
    ⟨some 42, none, .faddr 0 (.tmp 2)⟩,
    ⟨some 43, none, .ld none (.tmp 42)⟩,
    ⟨some 44, none, .bin .add (.tmp 41) (.tmp 43)⟩,
    ⟨some 45, none, .bin .add (.tmp 44) (.val (.int .i64 1))⟩,
    ⟨some 46, none, .iaS 1 (.tmp 40) (.tmp 45)⟩,
    ⟨some 47, none, .ld none (.tmp 46)⟩,
    ⟨some 48, none, .bld [(.int .i64 0), (.int .i64 0), (.int .i64 0), (.int .i64 0)] [(0, 1, (.tmp 23)), (1, 1, (.tmp 29)), (2, 1, (.tmp 38)), (3, 1, (.tmp 47))]⟩,
    ⟨none, none, .st 4 (.tmp 4) (.tmp 48)⟩] [] [4])
  (.ret)))⟩
theorem pf83_ok : fnOk Try.prog 83 pf83 = true := by kernel_rfl

/-- slices.Min[[]int,int] -/
def pf84 : PFn := ⟨25, 1, [.tmp 2], .seq
  (.reg [⟨some 2, none, .mv (.val (.int .i64 0))⟩] [] [0])
  (.seq
  (.seq
  (.reg [⟨some 5, none, .mv (.tmp 0)⟩,
    ⟨some 6, none, .len (.tmp 5)⟩,
    ⟨some 7, none, .bin .lss (.tmp 6) (.val (.int .i64 1))⟩] [] [0, 7])
  (.cond (.tmp 7)
  (.reg [⟨some 8, none, .mkif 9 (.val (.str ⟨#[115, 108, 105, 99, 101, 115, 46, 77, 105, 110, 58, 32, 101, 109, 112, 116, 121, 32, 108, 105, 115, 116]⟩))⟩,
    ⟨none, none, .bad⟩] [] [0])
  (.skip)))
  (.seq
  (.reg [⟨some 9, none, .mv (.tmp 0)⟩,
    ⟨some 10, none, .iaS 1 (.tmp 9) (.val (.int .i64 0))⟩,
    ⟨some 11, none, .ld none (.tmp 10)⟩,
    ⟨some 3, none, .mv (.tmp 11)⟩] [] [0, 3])
  (.seq
  (.seq
  (.reg [⟨some 4, none, .mv (.val (.int .i64 1))⟩] [] [0, 3, 4])
  (.blk 0 (.loop (.seq
  (.seq
  (.reg [⟨some 12, none, .mv (.tmp 4)⟩,
    ⟨some 13, none, .mv (.tmp 0)⟩,
    ⟨some 14, none, .len (.tmp 13)⟩,
    ⟨some 15, none, .bin .lss (.tmp 12) (.tmp 14)⟩] [] [0, 3, 4, 15])
  (.cond (.tmp 15)
  (.skip)
  (.ext 0)))
  (.seq
  (.blk 1 (.reg [⟨some 18, none, .mv (.tmp 3)⟩,
    ⟨some 19, none, .mv (.tmp 0)⟩,
    ⟨some 20, none, .mv (.tmp 4)⟩,
    ⟨some 21, none, .iaS 1 (.tmp 19) (.tmp 20)⟩,
    ⟨some 22, none, .ld none (.tmp 21)⟩,
    ⟨some 23, none, .mn (.tmp 18) [(.tmp 22)]⟩,
    ⟨some 3, none, .mv (.tmp 23)⟩] [] [0, 3, 4]))
  (.reg [⟨some 16, none, .mv (.tmp 4)⟩,
    ⟨some 17, none, .bin .add (.tmp 16) (.val (.int .i64 1))⟩,
    ⟨some 4, none, .mv (.tmp 17)⟩] [] [0, 3, 4]))))))
  (.seq
  (.reg [⟨some 24, none, .mv (.tmp 3)⟩,
    ⟨some 2, none, .mv (.tmp 24)⟩] [] [2])
  (.ret)))))⟩
theorem pf84_ok : fnOk Try.prog 84 pf84 = true := by kernel_rfl

/-- slices.Max[[]int,int] -/
def pf85 : PFn := ⟨25, 1, [.tmp 2], .seq
  (.reg [⟨some 2, none, .mv (.val (.int .i64 0))⟩] [] [0])
  (.seq
  (.seq
  (.reg [⟨some 5, none, .mv (.tmp 0)⟩,
    ⟨some 6, none, .len (.tmp 5)⟩,
    ⟨some 7, none, .bin .lss (.tmp 6) (.val (.int .i64 1))⟩] [] [0, 7])
  (.cond (.tmp 7)
  (.reg [⟨some 8, none, .mkif 9 (.val (.str ⟨#[115, 108, 105, 99, 101, 115, 46, 77, 97, 120, 58, 32, 101, 109, 112, 116, 121, 32, 108, 105, 115, 116]⟩))⟩,
    ⟨none, none, .bad⟩] [] [0])
  (.skip)))
  (.seq
  (.reg [⟨some 9, none, .mv (.tmp 0)⟩,
    ⟨some 10, none, .iaS 1 (.tmp 9) (.val (.int .i64 0))⟩,
    ⟨some 11, none, .ld none (.tmp 10)⟩,
    ⟨some 3, none, .mv (.tmp 11)⟩] [] [0, 3])
  (.seq
  (.seq
  (.reg [⟨some 4, none, .mv (.val (.int .i64 1))⟩] [] [0, 3, 4])
  (.blk 0 (.loop (.seq
  (.seq
  (.reg [⟨some 12, none, .mv (.tmp 4)⟩,
    ⟨some 13, none, .mv (.tmp 0)⟩,
    ⟨some 14, none, .len (.tmp 13)⟩,
    ⟨some 15, none, .bin .lss (.tmp 12) (.tmp 14)⟩] [] [0, 3, 4, 15])
  (.cond (.tmp 15)
  (.skip)
  (.ext 0)))
  (.seq
  (.blk 1 (.reg [⟨some 18, none, .mv (.tmp 3)⟩,
    ⟨some 19, none, .mv (.tmp 0)⟩,
    ⟨some 20, none, .mv (.tmp 4)⟩,
    ⟨some 21, none, .iaS 1 (.tmp 19) (.tmp 20)⟩,
    ⟨some 22, none, .ld none (.tmp 21)⟩,
    ⟨some 23, none, .mx (.tmp 18) [(.tmp 22)]⟩,
    ⟨some 3, none, .mv (.tmp 23)⟩] [] [0, 3, 4]))
  (.reg [⟨some 16, none, .mv (.tmp 4)⟩,
    ⟨some 17, none, .bin .add (.tmp 16) (.val (.int .i64 1))⟩,
    ⟨some 4, none, .mv (.tmp 17)⟩] [] [0, 3, 4]))))))
  (.seq
  (.reg [⟨some 24, none, .mv (.tmp 3)⟩,
    ⟨some 2, none, .mv (.tmp 24)⟩] [] [2])
  (.ret)))))⟩
theorem pf85_ok : fnOk Try.prog 85 pf85 = true := by kernel_rfl

/-- hinterland/span.base -/
def pf67 : PFn := ⟨14, 2, [.tmp 4, .tmp 5], .seq
  (.reg [⟨some 2, none, .boxp 24 (.tmp 0)⟩,
    ⟨some 4, none, .mv (.val (.int .i64 0))⟩,
    ⟨some 5, none, .mv (.val (.int .i64 0))⟩] [] [1, 2])
  (.seq
  (.reg [⟨some 7, none, .ld (some 3) (.tmp 2)⟩,
    ⟨some 8, none, .mv (.tmp 1)⟩,
    ⟨some 9, none, .call 83 .pure [(.tmp 7), (.tmp 8)]⟩,
    ⟨some 6, none, .zer 73 (.agg [(.int .i64 0), (.int .i64 0), (.int .i64 0), (.int .i64 0)])⟩,
    ⟨none, none, .st 4 (.tmp 6) (.tmp 9)⟩] [] [6])
  (.seq
  (.reg [⟨some 10, none, .slcA 4 1 (.tmp 6) none none⟩,
    ⟨some 11, none, .call 84 .pure [(.tmp 10)]⟩,
    ⟨some 12, none, .slcA 4 1 (.tmp 6) none none⟩,
    ⟨some 13, none, .call 85 .pure [(.tmp 12)]⟩,
    ⟨some 4, none, .mv (.tmp 11)⟩,
    ⟨some 5, none, .mv (.tmp 13)⟩] [] [4, 5])
  (.ret)))⟩
theorem pf67_ok : fnOk Try.prog 67 pf67 = true := by kernel_rfl

/-- hinterland/span.slope -/
def pf71 : PFn := ⟨40, 2, [.tmp 4], .seq
  (.reg [⟨some 2, none, .boxp 24 (.tmp 0)⟩,
    ⟨some 4, none, .mv (.val (.int .i64 0))⟩] [] [1, 2])
  (.seq
  (.reg [⟨some 11, none, .ld (some 3) (.tmp 2)⟩,
    ⟨some 12, none, .mv (.tmp 1)⟩,
    ⟨some 13, none, .call 83 .pure [(.tmp 11), (.tmp 12)]⟩,
    ⟨some 5, none, .zer 73 (.agg [(.int .i64 0), (.int .i64 0), (.int .i64 0), (.int .i64 0)])⟩,
    ⟨none, none, .st 4 (.tmp 5) (.tmp 13)⟩] [] [1, 2, 5])
  (.seq
  (.reg [⟨some 15, none, .ld (some 3) (.tmp 2)⟩,
    ⟨some 16, none, .mv (.tmp 1)⟩,
    ⟨some 17, none, .call 67 .pure [(.tmp 15), (.tmp 16)]⟩,
    ⟨some 14, none, .mv (.tmp 17)⟩,
    ⟨some 18, none, .ext 0 (.tmp 14)⟩,
    ⟨some 19, none, .ext 1 (.tmp 14)⟩,
    ⟨some 6, none, .mv (.tmp 18)⟩,
    ⟨some 7, none, .mv (.tmp 19)⟩] [] [5, 6, 7])
  (.seq
  (.reg [⟨some 8, none, .mv (.val (.int .i64 0))⟩] [] [5, 6, 7, 8])
  (.seq
  (.seq
  (.reg [⟨some 20, none, .ld (some 4) (.tmp 5)⟩,
    ⟨some 21, none, .mv (.val (.int .i64 0))⟩] [] [6, 7, 8, 20, 21])
  (.blk 0 (.loop (.seq
  (.reg [⟨some 22, none, .bin .lss (.tmp 21) (.val (.int .i64 4))⟩] [] [6, 7, 8, 20, 21, 22])
  (.seq
  (.cond (.tmp 22)
  (.skip)
  (.ext 0))
  (.seq
  (.blk 1 (.seq
  (.reg [⟨some 23, none, .mv (.tmp 21)⟩,
    ⟨some 24, none, .ixA 4 1 none (.tmp 20) (.tmp 21)⟩,
    ⟨some 9, none, .mv (.tmp 23)⟩,
    ⟨some 10, none, .mv (.tmp 24)⟩] [] [6, 7, 8, 9, 10, 20, 21])
  (.seq
  (.reg [⟨some 25, none, .mv (.tmp 10)⟩,
    ⟨some 26, none, .mv (.tmp 6)⟩,
    ⟨some 27, none, .bin .gtr (.tmp 25) (.tmp 26)⟩] [] [6, 7, 8, 9, 20, 21, 27])
  (.cond (.tmp 27)
  (.reg [⟨some 28, none, .mv (.tmp 8)⟩,
    ⟨some 29, none, .mv (.tmp 9)⟩,
    ⟨some 30, none, .bin .shl (.val (.int .i64 1)) (.tmp 29)⟩,
    ⟨some 31, none, .bin .or (.tmp 28) (.tmp 30)⟩,
    ⟨some 8, none, .mv (.tmp 31)⟩] [] [6, 7, 8, 20, 21])
  (.skip)))))
  (.reg [⟨some 32, none, .bin .add (.tmp 21) (.val (.int .i64 1))⟩,
    ⟨some 21, none, .mv (.tmp 32)⟩] [] [6, 7, 8, 20, 21])))))))
  (.seq
  (.seq
  (.reg [⟨some 33, none, .mv (.tmp 7)⟩,
    ⟨some 34, none, .mv (.tmp 6)⟩,
    ⟨some 35, none, .bin .add (.tmp 34) (.val (.int .i64 1))⟩,
    ⟨some 36, none, .bin .gtr (.tmp 33) (.tmp 35)⟩] [] [8, 36])
  (.cond (.tmp 36)
  (.reg [⟨some 37, none, .mv (.tmp 8)⟩,
    ⟨some 38, none, .bin .or (.tmp 37) (.val (.int .i64 16))⟩,
    ⟨some 8, none, .mv (.tmp 38)⟩] [] [8])
  (.skip)))
  (.seq
  (.reg [⟨some 39, none, .mv (.tmp 8)⟩,
    ⟨some 4, none, .mv (.tmp 39)⟩] [] [4])
  (.ret)))))))⟩
theorem pf71_ok : fnOk Try.prog 71 pf71 = true := by kernel_rfl

/-- hinterland/span.stands -/
def pf60 : PFn := ⟨104, 2, [.cell 4 none], .seq
  (.reg [⟨some 2, none, .boxp 24 (.tmp 0)⟩,
    ⟨some 3, none, .boxp 26 (.tmp 1)⟩,
    ⟨some 4, none, .zer 4 (.bool false)⟩] [] [2, 3, 4])
  (.seq
  (.reg [⟨some 17, none, .ld (some 3) (.tmp 2)⟩,
    ⟨some 18, none, .faddr 1 (.tmp 3)⟩,
    ⟨some 19, none, .ld none (.tmp 18)⟩,
    ⟨some 20, none, .call 67 .pure [(.tmp 17), (.tmp 19)]⟩,
    ⟨some 16, none, .mv (.tmp 20)⟩,
    ⟨some 21, none, .ext 0 (.tmp 16)⟩,
    ⟨some 22, none, .ext 1 (.tmp 16)⟩,
    ⟨some 5, none, .zer 3 (.int .i64 0)⟩,
    ⟨none, none, .st 1 (.tmp 5) (.tmp 21)⟩,
    ⟨some 6, none, .mv (.tmp 22)⟩] [] [2, 3, 4, 5])
  (.seq
  (.seq
  (.reg [⟨some 24, none, .ld (some 3) (.tmp 2)⟩,
    ⟨some 25, none, .faddr 2 (.tmp 3)⟩,
    ⟨some 26, none, .ld none (.tmp 25)⟩,
    ⟨some 27, none, .call 67 .pure [(.tmp 24), (.tmp 26)]⟩,
    ⟨some 23, none, .mv (.tmp 27)⟩,
    ⟨some 28, none, .ext 0 (.tmp 23)⟩,
    ⟨some 29, none, .ext 1 (.tmp 23)⟩,
    ⟨some 7, none, .mv (.tmp 28)⟩,
    ⟨some 8, none, .mv (.tmp 29)⟩] [] [2, 3, 4, 5, 7])
  (.seq
  (.reg [⟨some 30, none, .mv (.tmp 7)⟩,
    ⟨some 31, none, .ld none (.tmp 5)⟩,
    ⟨some 32, none, .bin .neq (.tmp 30) (.tmp 31)⟩,
    ⟨some 33, none, .mv (.tmp 32)⟩,
    ⟨some 34, (some (33, false)), .ld (some 3) (.tmp 2)⟩,
    ⟨some 35, (some (33, false)), .faddr 1 (.tmp 3)⟩,
    ⟨some 36, (some (33, false)), .ld none (.tmp 35)⟩,
    ⟨some 37, (some (33, false)), .call 71 .pure [(.tmp 34), (.tmp 36)]⟩,
    ⟨some 38, (some (33, false)), .bin .geq (.tmp 37) (.val (.int .i64 16))⟩,
    ⟨some 39, none, .pick (.tmp 33) (.val (.bool true)) (.tmp 38)⟩,
    ⟨some 40, none, .mv (.tmp 39)⟩,
    ⟨some 41, (some (40, false)), .ld (some 3) (.tmp 2)⟩,
    ⟨some 42, (some (40, false)), .faddr 2 (.tmp 3)⟩,
    ⟨some 43, (some (40, false)), .ld none (.tmp 42)⟩,
    ⟨some 44, (some (40, false)), .call 71 .pure [(.tmp 41), (.tmp 43)]⟩,
    ⟨some 45, (some (40, false)), .bin .geq (.tmp 44) (.val (.int .i64 16))⟩,
    ⟨some 46, none, .pick (.tmp 40) (.val (.bool true)) (.tmp 45)⟩] [] [2, 3, 4, 5, 46])
  (.cond (.tmp 46)
  (.seq
  (.reg [⟨none, none, .st 1 (.tmp 4) (.val (.bool false))⟩] [] [4])
  (.ret))
  (.skip))))
  (.seq
  (.seq
  (.reg [⟨some 47, none, .faddr 0 (.tmp 3)⟩,
    ⟨some 48, none, .ld none (.tmp 47)⟩,
    ⟨some 49, none, .bin .eql (.tmp 48) (.val (.int .i64 1))⟩] [] [2, 3, 4, 5, 49])
  (.cond (.tmp 49)
  (.seq
  (.reg [⟨some 51, none, .ld (some 3) (.tmp 2)⟩,
    ⟨some 52, none, .ld (some 4) (.tmp 3)⟩,
    ⟨some 53, none, .call 39 .pure [(.tmp 51), (.tmp 52)]⟩,
    ⟨some 50, none, .mv (.tmp 53)⟩,
    ⟨some 54, none, .ext 0 (.tmp 50)⟩,
    ⟨some 55, none, .ext 1 (.tmp 50)⟩,
    ⟨some 9, none, .mv (.tmp 54)⟩,
    ⟨some 10, none, .mv (.tmp 55)⟩] [] [2, 3, 4, 5, 10])
  (.seq
  (.reg [⟨some 56, none, .bld [(.int .i64 0), (.int .i64 0)] [(0, 1, (.val (.int .i64 6))), (1, 1, (.val (.int .i64 12)))]⟩,
    ⟨some 57, none, .bld [(.int .i64 0), (.int .i64 0)] [(0, 1, (.val (.int .i64 9))), (1, 1, (.val (.int .i64 3)))]⟩,
    ⟨some 11, none, .zer 85 (.agg [(.int .i64 0), (.int .i64 0)])⟩,
    ⟨some 12, none, .zer 85 (.agg [(.int .i64 0), (.int .i64 0)])⟩,
    ⟨none, none, .st 2 (.tmp 11) (.tmp 56)⟩,
    ⟨none, none, .st 2 (.tmp 12) (.tmp 57)⟩] [] [2, 3, 4, 5, 10, 11, 12])
  (.seq
  (.reg [⟨some 58, none, .ld (some 3) (.tmp 2)⟩,
    ⟨some 59, none, .faddr 1 (.tmp 3)⟩,
    ⟨some 60, none, .ld none (.tmp 59)⟩,
    ⟨some 61, none, .call 71 .pure [(.tmp 58), (.tmp 60)]⟩,
    ⟨some 62, none, .mv (.tmp 10)⟩,
    ⟨some 63, none, .iaA 2 1 (.tmp 11) (.tmp 62)⟩,
    ⟨some 64, none, .ld none (.tmp 63)⟩,
    ⟨some 65, none, .bin .neq (.tmp 61) (.tmp 64)⟩,
    ⟨some 66, none, .mv (.tmp 65)⟩,
    ⟨some 67, (some (66, false)), .ld (some 3) (.tmp 2)⟩,
    ⟨some 68, (some (66, false)), .faddr 2 (.tmp 3)⟩,
    ⟨some 69, (some (66, false)), .ld none (.tmp 68)⟩,
    ⟨some 70, (some (66, false)), .call 71 .pure [(.tmp 67), (.tmp 69)]⟩,
    ⟨some 71, (some (66, false)), .mv (.tmp 10)⟩,
    ⟨some 72, (some (66, false)), .iaA 2 1 (.tmp 12) (.tmp 71)⟩,
    ⟨some 73, (some (66, false)), .ld none (.tmp 72)⟩,
    ⟨some 74, (some (66, false)), .bin .neq (.tmp 70) (.tmp 73)⟩,
    ⟨some 75, none, .pick (.tmp 66) (.val (.bool true)) (.tmp 74)⟩] [] [2, 3, 4, 5, 75])
  (.cond (.tmp 75)
  (.seq
  (.reg [⟨none, none, .st 1 (.tmp 4) (.val (.bool false))⟩] [] [4])
  (.ret))
  (.skip)))))
  (.skip)))
  (.seq
  (.seq
  (.reg [⟨some 76, none, .ld (some 3) (.tmp 2)⟩,
    ⟨some 77, none, .ld (some 4) (.tmp 3)⟩,
    ⟨some 78, none, .call 48 .opn [(.tmp 76), (.tmp 77)]⟩] [] [2, 3, 4, 5, 78])
  (.blk 0 (.rng (.tmp 78) 79
  (.reg [⟨some 13, none, .mv (.tmp 79)⟩] [] [2, 3, 4, 5, 13])
  (.blk 1 (.seq
  (.reg [⟨some 81, none, .ld (some 3) (.tmp 2)⟩,
    ⟨some 82, none, .mv (.tmp 13)⟩,
    ⟨some 83, none, .call 67 .pure [(.tmp 81), (.tmp 82)]⟩,
    ⟨some 80, none, .mv (.tmp 83)⟩,
    ⟨some 84, none, .ext 0 (.tmp 80)⟩,
    ⟨some 85, none, .ext 1 (.tmp 80)⟩,
    ⟨some 14, none, .mv (.tmp 84)⟩,
    ⟨some 15, none, .mv (.tmp 85)⟩] [] [3, 4, 5, 14, 15])
  (.seq
  (.reg [⟨some 86, none, .faddr 0 (.tmp 3)⟩,
    ⟨some 87, none, .ld none (.tmp 86)⟩,
    ⟨some 88, none, .bin .eql (.tmp 87) (.val (.int .i64 1))⟩,
    ⟨some 89, none, .mv (.tmp 88)⟩,
    ⟨some 90, (some (89, true)), .mv (.tmp 14)⟩,
    ⟨some 91, (some (89, true)), .ld none (.tmp 5)⟩,
    ⟨some 92, (some (89, true)), .bin .leq (.tmp 90) (.tmp 91)⟩,
    ⟨some 93, none, .pick (.tmp 89) (.tmp 92) (.val (.bool false))⟩,
    ⟨some 94, none, .mv (.tmp 93)⟩,
    ⟨some 95, (some (94, false)), .faddr 0 (.tmp 3)⟩,
    ⟨some 96, (some (94, false)), .ld none (.tmp 95)⟩,
    ⟨some 97, (some (94, false)), .bin .neq (.tmp 96) (.val (.int .i64 1))⟩,
    ⟨some 98, (some (94, false)), .mv (.tmp 97)⟩,
    ⟨some 99, (some (98, true)), .mv (.tmp 15)⟩,
    ⟨some 100, (some (98, true)), .ld none (.tmp 5)⟩,
    ⟨some 101, (some (98, true)), .bin .gtr (.tmp 99) (.tmp 100)⟩,
    ⟨some 102, (some (94, false)), .pick (.tmp 98) (.tmp 101) (.val (.bool false))⟩,
    ⟨some 103, none, .pick (.tmp 94) (.val (.bool true)) (.tmp 102)⟩] [] [4, 103])
  (.cond (.tmp 103)
  (.seq
  (.reg [⟨none, none, .st 1 (.tmp 4) (.val (.bool false))⟩] [] [])
  (.ret))
  (.skip))))))))
  (.seq
  (.reg [⟨none, none, .st 1 (.tmp 4) (.val (.bool true))⟩] [] [4])
  (.ret))))))⟩
theorem pf60_ok : fnOk Try.prog 60 pf60 = true := by kernel_rfl

/-- hinterland/span.check -/
def pf32 : PFn := ⟨59, 2, [.tmp 4], .seq
  (.reg [⟨some 2, none, .boxp 24 (.tmp 0)⟩,
    ⟨some 3, none, .boxp 26 (.tmp 1)⟩,
    ⟨some 4, none, .mv (.val (.int .i64 0))⟩] [] [2, 3])
  (.seq
  (.seq
  (.reg [⟨some 8, none, .faddr 0 (.tmp 3)⟩,
    ⟨some 9, none, .ld none (.tmp 8)⟩,
    ⟨some 10, none, .bin .neq (.tmp 9) (.val (.int .i64 0))⟩,
    ⟨some 11, none, .mv (.tmp 10)⟩,
    ⟨some 12, (some (11, true)), .faddr 0 (.tmp 3)⟩,
    ⟨some 13, (some (11, true)), .ld none (.tmp 12)⟩,
    ⟨some 14, (some (11, true)), .bin .neq (.tmp 13) (.val (.int .i64 1))⟩,
    ⟨some 15, none, .pick (.tmp 11) (.tmp 14) (.val (.bool false))⟩,
    ⟨some 16, none, .mv (.tmp 15)⟩,
    ⟨some 17, (some (16, false)), .faddr 3 (.tmp 3)⟩,
    ⟨some 18, (some (16, false)), .ld none (.tmp 17)⟩,
    ⟨some 19, (some (16, false)), .bin .neq (.tmp 18) (.val (.int .i64 0))⟩,
    ⟨some 20, (some (16, false)), .mv (.tmp 19)⟩,
    ⟨some 21, (some (20, true)), .faddr 3 (.tmp 3)⟩,
    ⟨some 22, (some (20, true)), .ld none (.tmp 21)⟩,
    ⟨some 23, (some (20, true)), .bin .neq (.tmp 22) (.val (.int .i64 1))⟩,
    ⟨some 24, (some (16, false)), .pick (.tmp 20) (.tmp 23) (.val (.bool false))⟩,
    ⟨some 25, none, .pick (.tmp 16) (.val (.bool true)) (.tmp 24)⟩] [] [2, 3, 25])
  (.cond (.tmp 25)
  (.seq
  (.reg [⟨some 4, none, .mv (.val (.int .i64 1))⟩] [] [4])
  (.ret))
  (.skip)))
  (.seq
  (.seq
  (.reg [⟨some 26, none, .ld (some 3) (.tmp 2)⟩,
    ⟨some 27, none, .faddr 1 (.tmp 3)⟩,
    ⟨some 28, none, .ld none (.tmp 27)⟩,
    ⟨some 29, none, .call 42 .pure [(.tmp 26), (.tmp 28)]⟩,
    ⟨some 30, none, .un .not (.tmp 29)⟩,
    ⟨some 31, none, .mv (.tmp 30)⟩,
    ⟨some 32, (some (31, false)), .ld (some 3) (.tmp 2)⟩,
    ⟨some 33, (some (31, false)), .faddr 2 (.tmp 3)⟩,
    ⟨some 34, (some (31, false)), .ld none (.tmp 33)⟩,
    ⟨some 35, (some (31, false)), .call 42 .pure [(.tmp 32), (.tmp 34)]⟩,
    ⟨some 36, (some (31, false)), .un .not (.tmp 35)⟩,
    ⟨some 37, none, .pick (.tmp 31) (.val (.bool true)) (.tmp 36)⟩] [] [2, 3, 37])
  (.cond (.tmp 37)
  (.seq
  (.reg [⟨some 4, none, .mv (.val (.int .i64 2))⟩] [] [4])
  (.ret))
  (.skip)))
  (.seq
  (.seq
  (.reg [⟨some 39, none, .ld (some 3) (.tmp 2)⟩,
    ⟨some 40, none, .ld (some 4) (.tmp 3)⟩,
    ⟨some 41, none, .call 39 .pure [(.tmp 39), (.tmp 40)]⟩,
    ⟨some 38, none, .mv (.tmp 41)⟩,
    ⟨some 42, none, .ext 0 (.tmp 38)⟩,
    ⟨some 43, none, .ext 1 (.tmp 38)⟩,
    ⟨some 5, none, .mv (.tmp 42)⟩,
    ⟨some 6, none, .mv (.tmp 43)⟩] [] [2, 3, 5])
  (.seq
  (.reg [⟨some 44, none, .mv (.tmp 5)⟩,
    ⟨some 45, none, .bin .eql (.tmp 44) (.val (.int .i64 0))⟩] [] [2, 3, 45])
  (.cond (.tmp 45)
  (.seq
  (.reg [⟨some 4, none, .mv (.val (.int .i64 8))⟩] [] [4])
  (.ret))
  (.skip))))
  (.seq
  (.seq
  (.reg [⟨some 46, none, .ld (some 3) (.tmp 2)⟩,
    ⟨some 47, none, .ld (some 4) (.tmp 3)⟩,
    ⟨some 48, none, .call 40 .pure [(.tmp 46), (.tmp 47)]⟩,
    ⟨some 7, none, .mv (.tmp 48)⟩] [] [2, 3, 7])
  (.seq
  (.reg [⟨some 49, none, .mv (.tmp 7)⟩,
    ⟨some 50, none, .bin .lss (.tmp 49) (.val (.int .i64 1))⟩,
    ⟨some 51, none, .mv (.tmp 50)⟩,
    ⟨some 52, (some (51, false)), .mv (.tmp 7)⟩,
    ⟨some 53, (some (51, false)), .bin .gtr (.tmp 52) (.val (.int .i64 10))⟩,
    ⟨some 54, none, .pick (.tmp 51) (.val (.bool true)) (.tmp 53)⟩] [] [2, 3, 54])
  (.cond (.tmp 54)
  (.seq
  (.reg [⟨some 4, none, .mv (.val (.int .i64 10))⟩] [] [4])
  (.ret))
  (.skip))))
  (.seq
  (.seq
  (.reg [⟨some 55, none, .ld (some 3) (.tmp 2)⟩,
    ⟨some 56, none, .ld (some 4) (.tmp 3)⟩,
    ⟨some 57, none, .call 60 .pure [(.tmp 55), (.tmp 56)]⟩,
    ⟨some 58, none, .un .not (.tmp 57)⟩] [] [58])
  (.cond (.tmp 58)
  (.seq
  (.reg [⟨some 4, none, .mv (.val (.int .i64 5))⟩] [] [4])
  (.ret))
  (.skip)))
  (.seq
  (.reg [⟨some 4, none, .mv (.val (.int .i64 0))⟩] [] [4])
  (.ret)))))))⟩
theorem pf32_ok : fnOk Try.prog 32 pf32 = true := by kernel_rfl

/-- hinterland/span.Validate -/
def pf15 : PFn := ⟨14, 2, [.tmp 4], .seq
  (.reg [⟨some 2, none, .boxp 24 (.tmp 0)⟩,
    ⟨some 3, none, .boxp 26 (.tmp 1)⟩,
    ⟨some 4, none, .mv (.val (.int .i64 0))⟩] [] [2, 3])
  (.seq
  (.seq
  (.reg [⟨some 6, none, .ld (some 3) (.tmp 2)⟩,
    ⟨some 7, none, .call 31 .pure [(.tmp 6)]⟩,
    ⟨some 5, none, .mv (.tmp 7)⟩] [] [2, 3, 5])
  (.seq
  (.reg [⟨some 8, none, .mv (.tmp 5)⟩,
    ⟨some 9, none, .bin .neq (.tmp 8) (.val (.int .i64 0))⟩] [] [2, 3, 5, 9])
  (.cond (.tmp 9)
  (.seq
  (.reg [⟨some 10, none, .mv (.tmp 5)⟩,
    ⟨some 4, none, .mv (.tmp 10)⟩] [] [4])
  (.ret))
  (.skip))))
  (.seq
  (.reg [⟨some 11, none, .ld (some 3) (.tmp 2)⟩,
    ⟨some 12, none, .ld (some 4) (.tmp 3)⟩,
    ⟨some 13, none, .call 32 .pure [(.tmp 11), (.tmp 12)]⟩,
    ⟨some 4, none, .mv (.tmp 13)⟩] [] [4])
  (.ret)))⟩
theorem pf15_ok : fnOk Try.prog 15 pf15 = true := by kernel_rfl

/-- hinterland/span.price -/
def pf34 : PFn := ⟨21, 2, [.tmp 4], .seq
  (.reg [⟨some 2, none, .boxp 24 (.tmp 0)⟩,
    ⟨some 3, none, .boxp 26 (.tmp 1)⟩,
    ⟨some 4, none, .mv (.val (.int .i64 0))⟩] [] [2, 3])
  (.seq
  (.reg [⟨some 6, none, .ld (some 3) (.tmp 2)⟩,
    ⟨some 7, none, .ld (some 4) (.tmp 3)⟩,
    ⟨some 8, none, .call 40 .pure [(.tmp 6), (.tmp 7)]⟩,
    ⟨some 5, none, .mv (.tmp 8)⟩] [] [3, 5])
  (.seq
  (.reg [⟨some 9, none, .faddr 0 (.tmp 3)⟩,
    ⟨some 10, none, .ld none (.tmp 9)⟩,
    ⟨some 11, none, .bin .add (.val (.int .i64 1)) (.tmp 10)⟩,
    ⟨some 12, none, .bin .mul (.tmp 11) (.val (.int .i64 1000))⟩,
    ⟨some 13, none, .mv (.tmp 5)⟩,
    ⟨some 14, none, .bin .mul (.tmp 12) (.tmp 13)⟩,
    ⟨some 15, none, .mv (.tmp 5)⟩,
    ⟨some 16, none, .mv (.tmp 5)⟩,
    ⟨some 17, none, .bin .mul (.tmp 15) (.tmp 16)⟩,
    ⟨some 18, none, .bin .mul (.tmp 17) (.val (.int .i64 1000))⟩,
    ⟨some 19, none, .bin .quo (.tmp 18) (.val (.int .i64 4))⟩,
    ⟨some 20, none, .bin .add (.tmp 14) (.tmp 19)⟩,
    ⟨some 4, none, .mv (.tmp 20)⟩] [] [4])
  (.ret)))⟩
theorem pf34_ok : fnOk Try.prog 34 pf34 = true := by kernel_rfl

/-- hinterland/span.Cost -/
def pf17 : PFn := ⟨16, 2, [.tmp 4, .tmp 5], .seq
  (.reg [⟨some 2, none, .boxp 24 (.tmp 0)⟩,
    ⟨some 3, none, .boxp 26 (.tmp 1)⟩,
    ⟨some 4, none, .mv (.val (.int .i64 0))⟩,
    ⟨some 5, none, .mv (.val (.int .i64 0))⟩] [] [2, 3])
  (.seq
  (.seq
  (.reg [⟨some 7, none, .ld (some 3) (.tmp 2)⟩,
    ⟨some 8, none, .ld (some 4) (.tmp 3)⟩,
    ⟨some 9, none, .call 15 .pure [(.tmp 7), (.tmp 8)]⟩,
    ⟨some 6, none, .mv (.tmp 9)⟩] [] [2, 3, 6])
  (.seq
  (.reg [⟨some 10, none, .mv (.tmp 6)⟩,
    ⟨some 11, none, .bin .neq (.tmp 10) (.val (.int .i64 0))⟩] [] [2, 3, 6, 11])
  (.cond (.tmp 11)
  (.seq
  (.reg [⟨some 12, none, .mv (.tmp 6)⟩,
    ⟨some 4, none, .mv (.val (.int .i64 0))⟩,
    ⟨some 5, none, .mv (.tmp 12)⟩] [] [4, 5])
  (.ret))
  (.skip))))
  (.seq
  (.reg [⟨some 13, none, .ld (some 3) (.tmp 2)⟩,
    ⟨some 14, none, .ld (some 4) (.tmp 3)⟩,
    ⟨some 15, none, .call 34 .pure [(.tmp 13), (.tmp 14)]⟩,
    ⟨some 4, none, .mv (.tmp 15)⟩,
    ⟨some 5, none, .mv (.val (.int .i64 0))⟩] [] [4, 5])
  (.ret)))⟩
theorem pf17_ok : fnOk Try.prog 17 pf17 = true := by kernel_rfl

/-- hinterland/hinterlandlaw05.known -/
def pf13 : PFn := ⟨27, 0, [.tmp 0], .seq
  (.reg [⟨some 0, none, .mv (.val (.bool false))⟩] [] [])
  (.seq
  (.reg [⟨some 5, none, .bld [(.int .i64 0), (.int .i64 0), (.list .nil 1 [])] [(0, 1, (.val (.int .i64 4))), (1, 1, (.val (.int .i64 4)))]⟩,
    ⟨some 1, none, .zer 24 (.agg [(.int .i64 0), (.int .i64 0), (.list .nil 1 [])])⟩,
    ⟨none, none, .st 3 (.tmp 1) (.tmp 5)⟩] [] [1])
  (.seq
  (.seq
  (.reg [⟨some 2, none, .mv (.val (.int .i64 0))⟩] [] [1, 2])
  (.blk 0 (.loop (.seq
  (.seq
  (.reg [⟨some 6, none, .mv (.tmp 2)⟩,
    ⟨some 7, none, .bin .lss (.tmp 6) (.val (.int .i64 25))⟩] [] [1, 2, 7])
  (.cond (.tmp 7)
  (.skip)
  (.ext 0)))
  (.seq
  (.blk 1 (.reg [⟨some 10, none, .faddr 2 (.tmp 1)⟩,
    ⟨some 11, none, .ld none (.tmp 10)⟩,
    ⟨some 12, none, .bsl 1 1 [(.int .i64 0)] [(0, 1, (.val (.int .i64 3)))]⟩,
    ⟨some 13, none, .app 3 1 8 (.tmp 11) (.tmp 12)⟩,
    ⟨some 14, none, .faddr 2 (.tmp 1)⟩,
    ⟨none, none, .st 1 (.tmp 14) (.tmp 13)⟩] [] [1, 2]))
  (.reg [⟨some 8, none, .mv (.tmp 2)⟩,
    ⟨some 9, none, .bin .add (.tmp 8) (.val (.int .i64 1))⟩,
    ⟨some 2, none, .mv (.tmp 9)⟩] [] [1, 2]))))))
  (.seq
  (.reg [⟨some 16, none, .ld (some 3) (.tmp 1)⟩,
    ⟨some 17, none, .bld [(.int .i64 0), (.int .i64 0), (.int .i64 0), (.int .i64 0)] [(0, 1, (.val (.int .i64 0))), (1, 1, (.val (.int .i64 0))), (2, 1, (.val (.int .i64 3)))]⟩,
    ⟨some 18, none, .call 17 .pure [(.tmp 16), (.tmp 17)]⟩,
    ⟨some 15, none, .mv (.tmp 18)⟩,
    ⟨some 19, none, .ext 0 (.tmp 15)⟩,
    ⟨some 20, none, .ext 1 (.tmp 15)⟩,
    ⟨some 3, none, .mv (.tmp 19)⟩,
    ⟨some 4, none, .mv (.tmp 20)⟩] [] [3, 4])
  (.seq
  (.reg [⟨some 21, none, .mv (.tmp 3)⟩,
    ⟨some 22, none, .bin .eql (.tmp 21) (.val (.int .i64 3000))⟩,
    ⟨some 23, none, .mv (.tmp 22)⟩,
    ⟨some 24, (some (23, true)), .mv (.tmp 4)⟩,
    ⟨some 25, (some (23, true)), .bin .eql (.tmp 24) (.val (.int .i64 0))⟩,
    ⟨some 26, none, .pick (.tmp 23) (.tmp 25) (.val (.bool false))⟩,
    ⟨some 0, none, .mv (.tmp 26)⟩] [] [0])
  (.ret)))))⟩
theorem pf13_ok : fnOk Try.prog 13 pf13 = true := by kernel_rfl

/-- hinterland/hinterlandref02.side -/
def pf54 : PFn := ⟨9, 1, [.tmp 2], .seq
  (.reg [⟨some 2, none, .mv (.val (.bool false))⟩] [] [0])
  (.seq
  (.reg [⟨some 3, none, .mv (.tmp 0)⟩,
    ⟨some 4, none, .bin .geq (.tmp 3) (.val (.int .i64 4))⟩,
    ⟨some 5, none, .mv (.tmp 4)⟩,
    ⟨some 6, (some (5, true)), .mv (.tmp 0)⟩,
    ⟨some 7, (some (5, true)), .bin .leq (.tmp 6) (.val (.int .i64 32))⟩,
    ⟨some 8, none, .pick (.tmp 5) (.tmp 7) (.val (.bool false))⟩,
    ⟨some 2, none, .mv (.tmp 8)⟩] [] [2])
  (.ret))⟩
theorem pf54_ok : fnOk Try.prog 54 pf54 = true := by kernel_rfl

/-- hinterland/hinterlandref02.Apart -/
def pf55 : PFn := ⟨14, 2, [.tmp 4], .seq
  (.reg [⟨some 4, none, .mv (.val (.int .i64 0))⟩] [] [0, 1])
  (.seq
  (.seq
  (.reg [⟨some 5, none, .mv (.tmp 0)⟩,
    ⟨some 6, none, .mv (.tmp 1)⟩,
    ⟨some 7, none, .bin .lss (.tmp 5) (.tmp 6)⟩] [] [0, 1, 7])
  (.cond (.tmp 7)
  (.seq
  (.reg [⟨some 8, none, .mv (.tmp 1)⟩,
    ⟨some 9, none, .mv (.tmp 0)⟩,
    ⟨some 10, none, .bin .sub (.tmp 8) (.tmp 9)⟩,
    ⟨some 4, none, .mv (.tmp 10)⟩] [] [4])
  (.ret))
  (.skip)))
  (.seq
  (.reg [⟨some 11, none, .mv (.tmp 0)⟩,
    ⟨some 12, none, .mv (.tmp 1)⟩,
    ⟨some 13, none, .bin .sub (.tmp 11) (.tmp 12)⟩,
    ⟨some 4, none, .mv (.tmp 13)⟩] [] [4])
  (.ret)))⟩
theorem pf55_ok : fnOk Try.prog 55 pf55 = true := by kernel_rfl

/-- hinterland/hinterlandref02.Validate -/
def pf29 : PFn := ⟨90, 1, [.tmp 2], .seq
  (.reg [⟨some 1, none, .boxp 24 (.tmp 0)⟩,
    ⟨some 2, none, .mv (.val (.int .i64 0))⟩] [] [1])
  (.seq
  (.seq
  (.reg [⟨some 7, none, .faddr 0 (.tmp 1)⟩,
    ⟨some 8, none, .ld none (.tmp 7)⟩,
    ⟨some 9, none, .call 54 .pure [(.tmp 8)]⟩,
    ⟨some 10, none, .un .not (.tmp 9)⟩,
    ⟨some 11, none, .mv (.tmp 10)⟩,
    ⟨some 12, (some (11, false)), .faddr 1 (.tmp 1)⟩,
    ⟨some 13, (some (11, false)), .ld none (.tmp 12)⟩,
    ⟨some 14, (some (11, false)), .call 54 .pure [(.tmp 13)]⟩,
    ⟨some 15, (some (11, false)), .un .not (.tmp 14)⟩,
    ⟨some 16, none, .pick (.tmp 11) (.val (.bool true)) (.tmp 15)⟩,
    ⟨some 17, none, .mv (.tmp 16)⟩,
    ⟨some 18, (some (17, false)), .faddr 2 (.tmp 1)⟩,
    ⟨some 19, (some (17, false)), .ld none (.tmp 18)⟩,
    ⟨some 20, (some (17, false)), .len (.tmp 19)⟩,
    ⟨some 21, (some (17, false)), .faddr 0 (.tmp 1)⟩,
    ⟨some 22, (some (17, false)), .ld none (.tmp 21)⟩,
    ⟨some 23, (some (17, false)), .bin .add (.tmp 22) (.val (.int .i64 1))⟩,
    ⟨some 24, (some (17, false)), .faddr 1 (.tmp 1)⟩,
    ⟨some 25, (some (17, false)), .ld none (.tmp 24)⟩,
    ⟨some 26, (some (17, false)), .bin .add (.tmp 25) (.val (.int .i64 1))⟩,
    ⟨some 27, (some (17, false)), .bin .mul (.tmp 23) (.tmp 26)⟩,
    ⟨some 28, (some (17, false)), .bin .neq (.tmp 20) (.tmp 27)⟩,
    ⟨some 29, none, .pick (.tmp 17) (.val (.bool true)) (.tmp 28)⟩] [] [1, 29])
  (.cond (.tmp 29)
  (.seq
  (.reg [⟨some 2, none, .mv (.val (.int .i64 1))⟩] [] [2])
  (.ret))
  (.skip)))
  (.seq
  (.seq
  (.reg [⟨some 30, none, .faddr 2 (.tmp 1)⟩,
    ⟨some 31, none, .ld none (.tmp 30)⟩,
    ⟨some 32, none, .len (.tmp 31)⟩,
    ⟨some 33, none, .mv (.val (.int .i64 0))⟩] [] [1, 31, 32, 33])
  (.blk 0 (.loop (.seq
  (.reg [⟨some 34, none, .bin .lss (.tmp 33) (.tmp 32)⟩] [] [1, 31, 32, 33, 34])
  (.seq
  (.cond (.tmp 34)
  (.skip)
  (.ext 0))
  (.seq
  (.blk 1 (.seq
  (.reg [⟨some 35, none, .iaS 1 (.tmp 31) (.tmp 33)⟩,
    ⟨some 36, none, .ld none (.tmp 35)⟩,
    ⟨some 4, none, .mv (.tmp 36)⟩] [] [1, 4, 31, 32, 33])
  (.seq
  (.reg [⟨some 37, none, .mv (.tmp 4)⟩,
    ⟨some 38, none, .bin .lss (.tmp 37) (.val (.int .i64 0))⟩,
    ⟨some 39, none, .mv (.tmp 38)⟩,
    ⟨some 40, (some (39, false)), .mv (.tmp 4)⟩,
    ⟨some 41, (some (39, false)), .bin .gtr (.tmp 40) (.val (.int .i64 15))⟩,
    ⟨some 42, none, .pick (.tmp 39) (.val (.bool true)) (.tmp 41)⟩] [] [1, 31, 32, 33, 42])
  (.cond (.tmp 42)
  (.seq
  (.reg [⟨some 2, none, .mv (.val (.int .i64 1))⟩] [] [2])
  (.ret))
  (.skip)))))
  (.reg [⟨some 43, none, .bin .add (.tmp 33) (.val (.int .i64 1))⟩,
    ⟨some 33, none, .mv (.tmp 43)⟩] [] [1, 31, 32, 33])))))))
  (.seq
  (.seq
  (.reg [⟨some 44, none, .faddr 2 (.tmp 1)⟩,
    ⟨some 45, none, .ld none (.tmp 44)⟩,
    ⟨some 46, none, .len (.tmp 45)⟩,
    ⟨some 47, none, .mv (.val (.int .i64 0))⟩] [] [1, 45, 46, 47])
  (.blk 2 (.loop (.seq
  (.reg [⟨some 48, none, .bin .lss (.tmp 47) (.tmp 46)⟩] [] [1, 45, 46, 47, 48])
  (.seq
  (.cond (.tmp 48)
  (.skip)
  (.ext 2))
  (.seq
  (.blk 3 (.seq
  (.reg [⟨some 49, none, .mv (.tmp 47)⟩,
    ⟨some 50, none, .iaS 1 (.tmp 45) (.tmp 47)⟩,
    ⟨some 51, none, .ld none (.tmp 50)⟩,
    ⟨some 5, none, .mv (.tmp 49)⟩,
    ⟨some 6, none, .mv (.tmp 51)⟩] [] [1, 5, 6, 45, 46, 47])
  (.seq
  (.reg [⟨some 52, none, .mv (.tmp 5)⟩,
    ⟨some 53, none, .faddr 0 (.tmp 1)⟩,
    ⟨some 54, none, .ld none (.tmp 53)⟩,
    ⟨some 55, none, .bin .add (.tmp 54) (.val (.int .i64 1))⟩,
    ⟨some 56, none, .bin .rem (.tmp 52) (.tmp 55)⟩,
    ⟨some 57, none, .bin .gtr (.tmp 56) (.val (.int .i64 0))⟩,
    ⟨some 58, none, .mv (.tmp 57)⟩,
    ⟨some 59, (some (58, true)), .mv (.tmp 6)⟩,
    ⟨some 60, (some (58, true)), .faddr 2 (.tmp 1)⟩,
    ⟨some 61, (some (58, true)), .ld none (.tmp 60)⟩,
    ⟨some 62, (some (58, true)), .mv (.tmp 5)⟩,
    ⟨some 63, (some (58, true)), .bin .sub (.tmp 62) (.val (.int .i64 1))⟩,
    ⟨some 64, (some (58, true)), .iaS 1 (.tmp 61) (.tmp 63)⟩,
    ⟨some 65, (some (58, true)), .ld none (.tmp 64)⟩,
    ⟨some 66, (some (58, true)), .call 55 .pure [(.tmp 59), (.tmp 65)]⟩,
    ⟨some 67, (some (58, true)), .bin .gtr (.tmp 66) (.val (.int .i64 1))⟩,
    ⟨some 68, none, .pick (.tmp 58) (.tmp 67) (.val (.bool false))⟩,
    ⟨some 69, none, .mv (.tmp 68)⟩,
    ⟨some 70, (some (69, false)), .mv (.tmp 5)⟩,
    ⟨some 71, (some (69, false)), .faddr 0 (.tmp 1)⟩,
    ⟨some 72, (some (69, false)), .ld none (.tmp 71)⟩,
    ⟨some 73, (some (69, false)), .bin .gtr (.tmp 70) (.tmp 72)⟩,
    ⟨some 74, (some (69, false)), .mv (.tmp 73)⟩,
    ⟨some 75, (some (74, true)), .mv (.tmp 6)⟩,
    ⟨some 76, (some (74, true)), .faddr 2 (.tmp 1)⟩,
    ⟨some 77, (some (74, true)), .ld none (.tmp 76)⟩,
    ⟨some 78, (some (74, true)), .mv (.tmp 5)⟩,
    ⟨some 79, (some (74, true)), .faddr 0 (.tmp 1)⟩,
    ⟨some 80, (some (74, true)), .ld none (.tmp 79)⟩,
    ⟨some 81, (some (74, true)), .bin .sub (.tmp 78) (.tmp 80)⟩,
    ⟨some 82, (some (74, true)), .bin .sub (.tmp 81) (.val (.int .i64 1))⟩,
    ⟨some 83, (some (74, true)), .iaS 1 (.tmp 77) (.tmp 82)⟩,
    ⟨some 84, (some (74, true)), .ld none (.tmp 83)⟩,
    ⟨some 85, (some (74, true)), .call 55 .pure [(.tmp 75), (.tmp 84)]⟩,
    ⟨some 86, (some (74, true)), .bin .gtr (.tmp 85) (.val (.int .i64 1))⟩,
    ⟨some 87, (some (69, false)), .pick (.tmp 74) (.tmp 86) (.val (.bool false))⟩,
    ⟨some 88, none, .pick (.tmp 69) (.val (.bool true)) (.tmp 87)⟩] [] [1, 45, 46, 47, 88])
  (.cond (.tmp 88)
  (.seq
  (.reg [⟨some 2, none, .mv (.val (.int .i64 5))⟩] [] [2])
  (.ret))
  (.skip)))))
  (.reg [⟨some 89, none, .bin .add (.tmp 47) (.val (.int .i64 1))⟩,
    ⟨some 47, none, .mv (.tmp 89)⟩] [] [1, 45, 46, 47])))))))
  (.seq
  (.reg [⟨some 2, none, .mv (.val (.int .i64 0))⟩] [] [2])
  (.ret)))))⟩
theorem pf29_ok : fnOk Try.prog 29 pf29 = true := by kernel_rfl

/-- hinterland/hinterlandref05.gap -/
def pf36 : PFn := ⟨29, 2, [.tmp 4], .seq
  (.reg [⟨some 2, none, .boxp 24 (.tmp 0)⟩,
    ⟨some 3, none, .boxp 26 (.tmp 1)⟩,
    ⟨some 4, none, .mv (.val (.int .i64 0))⟩] [] [2, 3])
  (.seq
  (.seq
  (.reg [⟨some 5, none, .faddr 1 (.tmp 3)⟩,
    ⟨some 6, none, .ld none (.tmp 5)⟩,
    ⟨some 7, none, .faddr 0 (.tmp 2)⟩,
    ⟨some 8, none, .ld none (.tmp 7)⟩,
    ⟨some 9, none, .bin .quo (.tmp 6) (.tmp 8)⟩,
    ⟨some 10, none, .faddr 2 (.tmp 3)⟩,
    ⟨some 11, none, .ld none (.tmp 10)⟩,
    ⟨some 12, none, .faddr 0 (.tmp 2)⟩,
    ⟨some 13, none, .ld none (.tmp 12)⟩,
    ⟨some 14, none, .bin .quo (.tmp 11) (.tmp 13)⟩,
    ⟨some 15, none, .bin .eql (.tmp 9) (.tmp 14)⟩] [] [2, 3, 15])
  (.cond (.tmp 15)
  (.seq
  (.reg [⟨some 4, none, .mv (.val (.int .i64 1))⟩] [] [4])
  (.ret))
  (.skip)))
  (.seq
  (.seq
  (.reg [⟨some 16, none, .faddr 1 (.tmp 3)⟩,
    ⟨some 17, none, .ld none (.tmp 16)⟩,
    ⟨some 18, none, .faddr 0 (.tmp 2)⟩,
    ⟨some 19, none, .ld none (.tmp 18)⟩,
    ⟨some 20, none, .bin .rem (.tmp 17) (.tmp 19)⟩,
    ⟨some 21, none, .faddr 2 (.tmp 3)⟩,
    ⟨some 22, none, .ld none (.tmp 21)⟩,
    ⟨some 23, none, .faddr 0 (.tmp 2)⟩,
    ⟨some 24, none, .ld none (.tmp 23)⟩,
    ⟨some 25, none, .bin .rem (.tmp 22) (.tmp 24)⟩,
    ⟨some 26, none, .bin .eql (.tmp 20) (.tmp 25)⟩] [] [2, 26])
  (.cond (.tmp 26)
  (.seq
  (.reg [⟨some 27, none, .faddr 0 (.tmp 2)⟩,
    ⟨some 28, none, .ld none (.tmp 27)⟩,
    ⟨some 4, none, .mv (.tmp 28)⟩] [] [4])
  (.ret))
  (.skip)))
  (.seq
  (.reg [⟨some 4, none, .mv (.val (.int .i64 0))⟩] [] [4])
  (.ret))))⟩
theorem pf36_ok : fnOk Try.prog 36 pf36 = true := by kernel_rfl

/-- hinterland/hinterlandref05.Between -/
def pf37 : PFn := ⟨29, 2, [.tmp 4], .seq
  (.reg [⟨some 2, none, .boxp 24 (.tmp 0)⟩,
    ⟨some 3, none, .boxp 26 (.tmp 1)⟩,
    ⟨some 4, none, .mv (.val (.list .nil 1 []))⟩] [] [2, 3])
  (.seq
  (.reg [⟨some 8, none, .ld (some 3) (.tmp 2)⟩,
    ⟨some 9, none, .ld (some 4) (.tmp 3)⟩,
    ⟨some 10, none, .call 36 .pure [(.tmp 8), (.tmp 9)]⟩,
    ⟨some 5, none, .mv (.tmp 10)⟩] [] [3, 5])
  (.seq
  (.reg [⟨some 6, none, .nacc 3 1⟩] [] [3, 5, 6])
  (.seq
  (.seq
  (.reg [⟨some 11, none, .mv (.tmp 5)⟩,
    ⟨some 12, none, .bin .eql (.tmp 11) (.val (.int .i64 0))⟩] [] [3, 5, 6, 12])
  (.cond (.tmp 12)
  (.seq
  (.reg [⟨some 4, none, .mv (.val (.list .nil 1 []))⟩] [] [4])
  (.ret))
  (.skip)))
  (.seq
  (.seq
  (.reg [⟨some 13, none, .faddr 1 (.tmp 3)⟩,
    ⟨some 14, none, .ld none (.tmp 13)⟩,
    ⟨some 15, none, .mv (.tmp 5)⟩,
    ⟨some 16, none, .bin .add (.tmp 14) (.tmp 15)⟩,
    ⟨some 7, none, .mv (.tmp 16)⟩] [] [3, 5, 6, 7])
  (.blk 0 (.loop (.seq
  (.seq
  (.reg [⟨some 17, none, .mv (.tmp 7)⟩,
    ⟨some 18, none, .faddr 2 (.tmp 3)⟩,
    ⟨some 19, none, .ld none (.tmp 18)⟩,
    ⟨some 20, none, .bin .lss (.tmp 17) (.tmp 19)⟩] [] [3, 5, 6, 7, 20])
  (.cond (.tmp 20)
  (.skip)
  (.ext 0)))
  (.seq
  (.blk 1 (.reg [⟨some 24, none, .mv (.tmp 6)⟩,
    ⟨some 25, none, .mv (.tmp 7)⟩,
    ⟨some 26, none, .bsl 1 1 [(.int .i64 0)] [(0, 1, (.tmp 25))]⟩,
    ⟨some 27, none, .app 3 1 8 (.tmp 24) (.tmp 26)⟩,
    ⟨some 6, none, .mv (.tmp 27)⟩] [] [3, 5, 6, 7]))
  (.reg [⟨some 21, none, .mv (.tmp 7)⟩,
    ⟨some 22, none, .mv (.tmp 5)⟩,
    ⟨some 23, none, .bin .add (.tmp 21) (.tmp 22)⟩,
    ⟨some 7, none, .mv (.tmp 23)⟩] [] [3, 5, 6, 7]))))))
  (.seq
  (.reg [⟨some 28, none, .mv (.tmp 6)⟩,
    ⟨some 4, none, .mv (.tmp 28)⟩] [] [4])
  (.ret))))))⟩
theorem pf37_ok : fnOk Try.prog 37 pf37 = true := by kernel_rfl

/-- hinterland/hinterlandref05.corners -/
def pf58 : PFn := ⟨53, 2, [.cell 4 (some 4)], .seq
  (.reg [⟨some 2, none, .boxp 24 (.tmp 0)⟩,
    ⟨some 4, none, .zer 73 (.agg [(.int .i64 0), (.int .i64 0), (.int .i64 0), (.int .i64 0)])⟩] [] [1, 2, 4])
  (.seq
  (.reg [⟨some 8, none, .mv (.tmp 1)⟩,
    ⟨some 9, none, .faddr 0 (.tmp 2)⟩,
    ⟨some 10, none, .ld none (.tmp 9)⟩,
    ⟨some 11, none, .bin .rem (.tmp 8) (.tmp 10)⟩,
    ⟨some 12, none, .mv (.tmp 1)⟩,
    ⟨some 13, none, .faddr 0 (.tmp 2)⟩,
    ⟨some 14, none, .ld none (.tmp 13)⟩,
    ⟨some 15, none, .bin .quo (.tmp 12) (.tmp 14)⟩,
    ⟨some 5, none, .mv (.tmp 11)⟩,
    ⟨some 6, none, .mv (.tmp 15)⟩] [] [2, 4, 5, 6])
  (.seq
  (.reg [⟨some 16, none, .mv (.tmp 6)⟩,
    ⟨some 17, none, .faddr 0 (.tmp 2)⟩,
    ⟨some 18, none, .ld none (.tmp 17)⟩,
    ⟨some 19, none, .bin .add (.tmp 18) (.val (.int .i64 1))⟩,
    ⟨some 20, none, .bin .mul (.tmp 16) (.tmp 19)⟩,
    ⟨some 21, none, .mv (.tmp 5)⟩,
    ⟨some 22, none, .bin .add (.tmp 20) (.tmp 21)⟩,
    ⟨some 7, none, .mv (.tmp 22)⟩] [] [2, 4, 7])
  (.seq
  (.reg [⟨some 23, none, .faddr 2 (.tmp 2)⟩,
    ⟨some 24, none, .ld none (.tmp 23)⟩,
    ⟨some 25, none, .mv (.tmp 7)⟩,
    ⟨some 26, none, .iaS 1 (.tmp 24) (.tmp 25)⟩,
    ⟨some 27, none, .ld none (.tmp 26)⟩,
    ⟨some 28, none, .faddr 2 (.tmp 2)⟩,
    ⟨some 29, none, .ld none (.tmp 28)⟩,
    ⟨some 30, none, .mv (.tmp 7)⟩,
    ⟨some 31, none, .bin .add (.tmp 30) (.val (.int .i64 1))⟩,
    ⟨some 32, none, .iaS 1 (.tmp 29) (.tmp 31)⟩,
    ⟨some 33, none, .ld none (.tmp 32)⟩,
    ⟨some 34, none, .faddr 2 (.tmp 2)⟩,
    ⟨some 35, none, .ld none (.tmp 34)⟩,
    ⟨some 36, none, .mv (.tmp 7)⟩,
    ⟨some 37, none, .faddr 0 (.tmp 2)⟩,
    ⟨some 38, none, .ld none (.tmp 37)⟩,
    ⟨some 39, none, .bin .add (.tmp 36) (.tmp 38)⟩,
    ⟨some 40, none, .bin .add (.tmp 39) (.val (.int .i64 2))⟩,
    ⟨some 41, none, .iaS 1 (.tmp 35) (.tmp 40)⟩,
    ⟨some 42, none, .ld none (.tmp 41)⟩,
    ⟨some 43, none, .faddr 2 (.tmp 2)⟩,
    ⟨some 44, none, .ld none (.tmp 43)⟩,
    ⟨some 45, none, .mv (.tmp 7)⟩,
    ⟨some 46, none, .faddr 0 (.tmp 2)⟩,
    ⟨some 47, none, .ld none (.tmp 46)⟩,
    ⟨some 48, none, .bin .add (.tmp 45) (.tmp 47)⟩,
    ⟨some 49, none, .bin .add (.tmp 48) (.val (.int .i64 1))⟩,
    ⟨some 50, none, .iaS 1 (.tmp 44) (.tmp 49)⟩,
    ⟨some 51, none, .ld none (.tmp 50)⟩,
    ⟨some 52, none, .bld [(.int .i64 0), (.int .i64 0), (.int .i64 0), (.int .i64 0)] [(0, 1, (.tmp 27)), (1, 1, (.tmp 33)), (2, 1, (.tmp 42)), (3, 1, (.tmp 51))]⟩,
    ⟨none, none, .st 4 (.tmp 4) (.tmp 52)⟩] [] [4])
  (.ret))))⟩
theorem pf58_ok : fnOk Try.prog 58 pf58 = true := by kernel_rfl

/-- hinterland/hinterlandref05.Base -/
def pf56 : PFn := ⟨18, 2, [.tmp 4], .seq
  (.reg [⟨some 2, none, .boxp 24 (.tmp 0)⟩,
    ⟨some 4, none, .mv (.val (.int .i64 0))⟩] [] [1, 2])
  (.seq
  (.reg [⟨some 6, none, .ld (some 3) (.tmp 2)⟩,
    ⟨some 7, none, .mv (.tmp 1)⟩,
    ⟨some 8, none, .call 58 .pure [(.tmp 6), (.tmp 7)]⟩,
    ⟨some 5, none, .zer 73 (.agg [(.int .i64 0), (.int .i64 0), (.int .i64 0), (.int .i64 0)])⟩,
    ⟨none, none, .st 4 (.tmp 5) (.tmp 8)⟩] [] [5])
  (.seq
  (.reg [⟨some 9, none, .iaA 4 1 (.tmp 5) (.val (.int .i64 0))⟩,
    ⟨some 10, none, .ld none (.tmp 9)⟩,
    ⟨some 11, none, .iaA 4 1 (.tmp 5) (.val (.int .i64 1))⟩,
    ⟨some 12, none, .ld none (.tmp 11)⟩,
    ⟨some 13, none, .iaA 4 1 (.tmp 5) (.val (.int .i64 2))⟩,
    ⟨some 14, none, .ld none (.tmp 13)⟩,
    ⟨some 15, none, .iaA 4 1 (.tmp 5) (.val (.int .i64 3))⟩,
    ⟨some 16, none, .ld none (.tmp 15)⟩,
    ⟨some 17, none, .mn (.tmp 10) [(.tmp 12), (.tmp 14), (.tmp 16)]⟩,
    ⟨some 4, none, .mv (.tmp 17)⟩] [] [4])
  (.ret)))⟩
theorem pf56_ok : fnOk Try.prog 56 pf56 = true := by kernel_rfl

/-- hinterland/hinterlandref05.slope -/
def pf57 : PFn := ⟨42, 2, [.tmp 4], .seq
  (.reg [⟨some 2, none, .boxp 24 (.tmp 0)⟩,
    ⟨some 4, none, .mv (.val (.int .i64 0))⟩] [] [1, 2])
  (.seq
  (.reg [⟨some 10, none, .ld (some 3) (.tmp 2)⟩,
    ⟨some 11, none, .mv (.tmp 1)⟩,
    ⟨some 12, none, .call 58 .pure [(.tmp 10), (.tmp 11)]⟩,
    ⟨some 13, none, .ld (some 3) (.tmp 2)⟩,
    ⟨some 14, none, .mv (.tmp 1)⟩,
    ⟨some 15, none, .call 56 .pure [(.tmp 13), (.tmp 14)]⟩,
    ⟨some 5, none, .zer 73 (.agg [(.int .i64 0), (.int .i64 0), (.int .i64 0), (.int .i64 0)])⟩,
    ⟨none, none, .st 4 (.tmp 5) (.tmp 12)⟩,
    ⟨some 6, none, .mv (.tmp 15)⟩,
    ⟨some 7, none, .mv (.val (.int .i64 0))⟩] [(0, 6), (0, 7), (2, 6), (2, 7), (3, 6), (3, 7), (5, 6), (5, 7)] [5, 6, 7])
  (.seq
  (.seq
  (.reg [⟨some 8, none, .mv (.val (.int .i64 0))⟩] [] [5, 6, 7, 8])
  (.blk 0 (.loop (.seq
  (.seq
  (.reg [⟨some 16, none, .mv (.tmp 8)⟩,
    ⟨some 17, none, .bin .lss (.tmp 16) (.val (.int .i64 4))⟩] [] [5, 6, 7, 8, 17])
  (.cond (.tmp 17)
  (.skip)
  (.ext 0)))
  (.seq
  (.blk 1 (.seq
  (.reg [⟨some 20, none, .mv (.tmp 8)⟩,
    ⟨some 21, none, .iaA 4 1 (.tmp 5) (.tmp 20)⟩,
    ⟨some 22, none, .ld none (.tmp 21)⟩,
    ⟨some 23, none, .mv (.tmp 6)⟩,
    ⟨some 24, none, .bin .gtr (.tmp 22) (.tmp 23)⟩] [] [5, 6, 7, 8, 24])
  (.cond (.tmp 24)
  (.reg [⟨some 25, none, .mv (.tmp 7)⟩,
    ⟨some 26, none, .mv (.tmp 8)⟩,
    ⟨some 27, none, .bin .shl (.val (.int .i64 1)) (.tmp 26)⟩,
    ⟨some 28, none, .bin .add (.tmp 25) (.tmp 27)⟩,
    ⟨some 7, none, .mv (.tmp 28)⟩] [] [5, 6, 7, 8])
  (.skip))))
  (.reg [⟨some 18, none, .mv (.tmp 8)⟩,
    ⟨some 19, none, .bin .add (.tmp 18) (.val (.int .i64 1))⟩,
    ⟨some 8, none, .mv (.tmp 19)⟩] [] [5, 6, 7, 8]))))))
  (.seq
  (.seq
  (.reg [⟨some 9, none, .mv (.val (.int .i64 0))⟩] [] [5, 6, 7, 9])
  (.blk 2 (.loop (.seq
  (.seq
  (.reg [⟨some 29, none, .mv (.tmp 9)⟩,
    ⟨some 30, none, .bin .lss (.tmp 29) (.val (.int .i64 4))⟩] [] [5, 6, 7, 9, 30])
  (.cond (.tmp 30)
  (.skip)
  (.ext 2)))
  (.seq
  (.blk 3 (.seq
  (.reg [⟨some 33, none, .mv (.tmp 9)⟩,
    ⟨some 34, none, .iaA 4 1 (.tmp 5) (.tmp 33)⟩,
    ⟨some 35, none, .ld none (.tmp 34)⟩,
    ⟨some 36, none, .mv (.tmp 6)⟩,
    ⟨some 37, none, .bin .add (.tmp 36) (.val (.int .i64 1))⟩,
    ⟨some 38, none, .bin .gtr (.tmp 35) (.tmp 37)⟩] [] [5, 6, 7, 9, 38])
  (.cond (.tmp 38)
  (.seq
  (.reg [⟨some 39, none, .mv (.tmp 7)⟩,
    ⟨some 40, none, .bin .add (.tmp 39) (.val (.int .i64 16))⟩,
    ⟨some 4, none, .mv (.tmp 40)⟩] [] [4])
  (.ret))
  (.skip))))
  (.reg [⟨some 31, none, .mv (.tmp 9)⟩,
    ⟨some 32, none, .bin .add (.tmp 31) (.val (.int .i64 1))⟩,
    ⟨some 9, none, .mv (.tmp 32)⟩] [] [5, 6, 7, 9]))))))
  (.seq
  (.reg [⟨some 41, none, .mv (.tmp 7)⟩,
    ⟨some 4, none, .mv (.tmp 41)⟩] [] [4])
  (.ret)))))⟩
theorem pf57_ok : fnOk Try.prog 57 pf57 = true := by kernel_rfl

/-- hinterland/hinterlandref05.spanError -/
def pf30 : PFn := ⟨161, 2, [.tmp 4], .seq
  (.reg [⟨some 2, none, .boxp 24 (.tmp 0)⟩,
    ⟨some 3, none, .boxp 26 (.tmp 1)⟩,
    ⟨some 4, none, .mv (.val (.int .i64 0))⟩] [] [2, 3])
  (.seq
  (.seq
  (.reg [⟨some 13, none, .faddr 0 (.tmp 3)⟩,
    ⟨some 14, none, .ld none (.tmp 13)⟩,
    ⟨some 15, none, .bin .lss (.tmp 14) (.val (.int .i64 0))⟩,
    ⟨some 16, none, .mv (.tmp 15)⟩,
    ⟨some 17, (some (16, false)), .faddr 0 (.tmp 3)⟩,
    ⟨some 18, (some (16, false)), .ld none (.tmp 17)⟩,
    ⟨some 19, (some (16, false)), .bin .gtr (.tmp 18) (.val (.int .i64 1))⟩,
    ⟨some 20, none, .pick (.tmp 16) (.val (.bool true)) (.tmp 19)⟩,
    ⟨some 21, none, .mv (.tmp 20)⟩,
    ⟨some 22, (some (21, false)), .faddr 3 (.tmp 3)⟩,
    ⟨some 23, (some (21, false)), .ld none (.tmp 22)⟩,
    ⟨some 24, (some (21, false)), .bin .lss (.tmp 23) (.val (.int .i64 0))⟩,
    ⟨some 25, none, .pick (.tmp 21) (.val (.bool true)) (.tmp 24)⟩,
    ⟨some 26, none, .mv (.tmp 25)⟩,
    ⟨some 27, (some (26, false)), .faddr 3 (.tmp 3)⟩,
    ⟨some 28, (some (26, false)), .ld none (.tmp 27)⟩,
    ⟨some 29, (some (26, false)), .bin .gtr (.tmp 28) (.val (.int .i64 1))⟩,
    ⟨some 30, none, .pick (.tmp 26) (.val (.bool true)) (.tmp 29)⟩] [] [2, 3, 30])
  (.cond (.tmp 30)
  (.seq
  (.reg [⟨some 4, none, .mv (.val (.int .i64 1))⟩] [] [4])
  (.ret))
  (.skip)))
  (.seq
  (.reg [⟨some 31, none, .faddr 0 (.tmp 2)⟩,
    ⟨some 32, none, .ld none (.tmp 31)⟩,
    ⟨some 33, none, .faddr 1 (.tmp 2)⟩,
    ⟨some 34, none, .ld none (.tmp 33)⟩,
    ⟨some 35, none, .bin .mul (.tmp 32) (.tmp 34)⟩,
    ⟨some 5, none, .mv (.tmp 35)⟩] [] [2, 3, 5])
  (.seq
  (.seq
  (.reg [⟨some 36, none, .faddr 1 (.tmp 3)⟩,
    ⟨some 37, none, .ld none (.tmp 36)⟩,
    ⟨some 38, none, .bin .lss (.tmp 37) (.val (.int .i64 0))⟩,
    ⟨some 39, none, .mv (.tmp 38)⟩,
    ⟨some 40, (some (39, false)), .faddr 1 (.tmp 3)⟩,
    ⟨some 41, (some (39, false)), .ld none (.tmp 40)⟩,
    ⟨some 42, (some (39, false)), .mv (.tmp 5)⟩,
    ⟨some 43, (some (39, false)), .bin .geq (.tmp 41) (.tmp 42)⟩,
    ⟨some 44, none, .pick (.tmp 39) (.val (.bool true)) (.tmp 43)⟩,
    ⟨some 45, none, .mv (.tmp 44)⟩,
    ⟨some 46, (some (45, false)), .faddr 2 (.tmp 3)⟩,
    ⟨some 47, (some (45, false)), .ld none (.tmp 46)⟩,
    ⟨some 48, (some (45, false)), .bin .lss (.tmp 47) (.val (.int .i64 0))⟩,
    ⟨some 49, none, .pick (.tmp 45) (.val (.bool true)) (.tmp 48)⟩,
    ⟨some 50, none, .mv (.tmp 49)⟩,
    ⟨some 51, (some (50, false)), .faddr 2 (.tmp 3)⟩,
    ⟨some 52, (some (50, false)), .ld none (.tmp 51)⟩,
    ⟨some 53, (some (50, false)), .mv (.tmp 5)⟩,
    ⟨some 54, (some (50, false)), .bin .geq (.tmp 52) (.tmp 53)⟩,
    ⟨some 55, none, .pick (.tmp 50) (.val (.bool true)) (.tmp 54)⟩] [] [2, 3, 55])
  (.cond (.tmp 55)
  (.seq
  (.reg [⟨some 4, none, .mv (.val (.int .i64 2))⟩] [] [4])
  (.ret))
  (.skip)))
  (.seq
  (.seq
  (.reg [⟨some 56, none, .faddr 1 (.tmp 3)⟩,
    ⟨some 57, none, .ld none (.tmp 56)⟩,
    ⟨some 58, none, .faddr 2 (.tmp 3)⟩,
    ⟨some 59, none, .ld none (.tmp 58)⟩,
    ⟨some 60, none, .bin .geq (.tmp 57) (.tmp 59)⟩,
    ⟨some 61, none, .mv (.tmp 60)⟩,
    ⟨some 62, (some (61, false)), .ld (some 3) (.tmp 2)⟩,
    ⟨some 63, (some (61, false)), .ld (some 4) (.tmp 3)⟩,
    ⟨some 64, (some (61, false)), .call 36 .pure [(.tmp 62), (.tmp 63)]⟩,
    ⟨some 65, (some (61, false)), .bin .eql (.tmp 64) (.val (.int .i64 0))⟩,
    ⟨some 66, none, .pick (.tmp 61) (.val (.bool true)) (.tmp 65)⟩] [] [2, 3, 66])
  (.cond (.tmp 66)
  (.seq
  (.reg [⟨some 4, none, .mv (.val (.int .i64 8))⟩] [] [4])
  (.ret))
  (.skip)))
  (.seq
  (.reg [⟨some 67, none, .ld (some 3) (.tmp 2)⟩,
    ⟨some 68, none, .ld (some 4) (.tmp 3)⟩,
    ⟨some 69, none, .call 37 .pure [(.tmp 67), (.tmp 68)]⟩,
    ⟨some 6, none, .mv (.tmp 69)⟩] [] [2, 3, 6])
  (.seq
  (.seq
  (.reg [⟨some 70, none, .mv (.tmp 6)⟩,
    ⟨some 71, none, .len (.tmp 70)⟩,
    ⟨some 72, none, .bin .eql (.tmp 71) (.val (.int .i64 0))⟩,
    ⟨some 73, none, .mv (.tmp 72)⟩,
    ⟨some 74, (some (73, false)), .mv (.tmp 6)⟩,
    ⟨some 75, (some (73, false)), .len (.tmp 74)⟩,
    ⟨some 76, (some (73, false)), .bin .gtr (.tmp 75) (.val (.int .i64 10))⟩,
    ⟨some 77, none, .pick (.tmp 73) (.val (.bool true)) (.tmp 76)⟩] [] [2, 3, 6, 77])
  (.cond (.tmp 77)
  (.seq
  (.reg [⟨some 4, none, .mv (.val (.int .i64 10))⟩] [] [4])
  (.ret))
  (.skip)))
  (.seq
  (.reg [⟨some 78, none, .ld (some 3) (.tmp 2)⟩,
    ⟨some 79, none, .faddr 1 (.tmp 3)⟩,
    ⟨some 80, none, .ld none (.tmp 79)⟩,
    ⟨some 81, none, .call 56 .pure [(.tmp 78), (.tmp 80)]⟩,
    ⟨some 7, none, .mv (.tmp 81)⟩] [] [2, 3, 6, 7])
  (.seq
  (.seq
  (.reg [⟨some 82, none, .ld (some 3) (.tmp 2)⟩,
    ⟨some 83, none, .faddr 2 (.tmp 3)⟩,
    ⟨some 84, none, .ld none (.tmp 83)⟩,
    ⟨some 85, none, .call 56 .pure [(.tmp 82), (.tmp 84)]⟩,
    ⟨some 86, none, .mv (.tmp 7)⟩,
    ⟨some 87, none, .bin .neq (.tmp 85) (.tmp 86)⟩,
    ⟨some 88, none, .mv (.tmp 87)⟩,
    ⟨some 89, (some (88, false)), .ld (some 3) (.tmp 2)⟩,
    ⟨some 90, (some (88, false)), .faddr 1 (.tmp 3)⟩,
    ⟨some 91, (some (88, false)), .ld none (.tmp 90)⟩,
    ⟨some 92, (some (88, false)), .call 57 .pure [(.tmp 89), (.tmp 91)]⟩,
    ⟨some 93, (some (88, false)), .bin .geq (.tmp 92) (.val (.int .i64 16))⟩,
    ⟨some 94, none, .pick (.tmp 88) (.val (.bool true)) (.tmp 93)⟩,
    ⟨some 95, none, .mv (.tmp 94)⟩,
    ⟨some 96, (some (95, false)), .ld (some 3) (.tmp 2)⟩,
    ⟨some 97, (some (95, false)), .faddr 2 (.tmp 3)⟩,
    ⟨some 98, (some (95, false)), .ld none (.tmp 97)⟩,
    ⟨some 99, (some (95, false)), .call 57 .pure [(.tmp 96), (.tmp 98)]⟩,
    ⟨some 100, (some (95, false)), .bin .geq (.tmp 99) (.val (.int .i64 16))⟩,
    ⟨some 101, none, .pick (.tmp 95) (.val (.bool true)) (.tmp 100)⟩] [] [2, 3, 6, 7, 101])
  (.cond (.tmp 101)
  (.seq
  (.reg [⟨some 4, none, .mv (.val (.int .i64 5))⟩] [] [4])
  (.ret))
  (.skip)))
  (.seq
  (.seq
  (.reg [⟨some 8, none, .mv (.val (.int .i64 0))⟩] [] [2, 3, 6, 7, 8])
  (.blk 0 (.loop (.trim (.seq
  (.seq
  (.reg [⟨some 102, none, .mv (.tmp 8)⟩,
    ⟨some 103, none, .mv (.tmp 6)⟩,
    ⟨some 104, none, .len (.tmp 103)⟩,
    ⟨some 105, none, .bin .lss (.tmp 102) (.tmp 104)⟩] [] [2, 3, 6, 7, 8, 105])
  (.cond (.tmp 105)
  (.skip)
  (.ext 0)))
  (.seq
  (.blk 1 (.seq
  (.reg [⟨some 108, none, .ld (some 3) (.tmp 2)⟩,
    ⟨some 109, none, .mv (.tmp 6)⟩,
    ⟨some 110, none, .mv (.tmp 8)⟩,
    ⟨some 111, none, .iaS 1 (.tmp 109) (.tmp 110)⟩,
    ⟨some 112, none, .ld none (.tmp 111)⟩,
    ⟨some 113, none, .call 58 .pure [(.tmp 108), (.tmp 112)]⟩,
    ⟨some 9, none, .zer 73 (.agg [(.int .i64 0), (.int .i64 0), (.int .i64 0), (.int .i64 0)])⟩,
    ⟨none, none, .st 4 (.tmp 9) (.tmp 113)⟩] [(0, 6), (0, 7), (4, 6), (4, 7), (5, 6), (5, 7)] [2, 3, 6, 7, 8, 9])
  (.seq
  (.reg [⟨some 10, none, .mv (.val (.int .i64 0))⟩] [] [2, 3, 6, 7, 8, 9, 10])
  (.blk 2 (.loop (.seq
  (.seq
  (.reg [⟨some 114, none, .mv (.tmp 10)⟩,
    ⟨some 115, none, .bin .lss (.tmp 114) (.val (.int .i64 4))⟩] [] [2, 3, 6, 7, 8, 9, 10, 115])
  (.cond (.tmp 115)
  (.skip)
  (.ext 2)))
  (.seq
  (.blk 3 (.seq
  (.reg [⟨some 118, none, .faddr 0 (.tmp 3)⟩,
    ⟨some 119, none, .ld none (.tmp 118)⟩,
    ⟨some 120, none, .bin .eql (.tmp 119) (.val (.int .i64 0))⟩,
    ⟨some 121, none, .mv (.tmp 120)⟩,
    ⟨some 122, (some (121, true)), .mv (.tmp 10)⟩,
    ⟨some 123, (some (121, true)), .iaA 4 1 (.tmp 9) (.tmp 122)⟩,
    ⟨some 124, (some (121, true)), .ld none (.tmp 123)⟩,
    ⟨some 125, (some (121, true)), .mv (.tmp 7)⟩,
    ⟨some 126, (some (121, true)), .bin .gtr (.tmp 124) (.tmp 125)⟩,
    ⟨some 127, none, .pick (.tmp 121) (.tmp 126) (.val (.bool false))⟩,
    ⟨some 128, none, .mv (.tmp 127)⟩,
    ⟨some 129, (some (128, false)), .faddr 0 (.tmp 3)⟩,
    ⟨some 130, (some (128, false)), .ld none (.tmp 129)⟩,
    ⟨some 131, (some (128, false)), .bin .eql (.tmp 130) (.val (.int .i64 1))⟩,
    ⟨some 132, (some (128, false)), .mv (.tmp 131)⟩,
    ⟨some 133, (some (132, true)), .mv (.tmp 10)⟩,
    ⟨some 134, (some (132, true)), .iaA 4 1 (.tmp 9) (.tmp 133)⟩,
    ⟨some 135, (some (132, true)), .ld none (.tmp 134)⟩,
    ⟨some 136, (some (132, true)), .mv (.tmp 7)⟩,
    ⟨some 137, (some (132, true)), .bin .leq (.tmp 135) (.tmp 136)⟩,
    ⟨some 138, (some (128, false)), .pick (.tmp 132) (.tmp 137) (.val (.bool false))⟩,
    ⟨some 139, none, .pick (.tmp 128) (.val (.bool true)) (.tmp 138)⟩] [] [2, 3, 6, 7, 8, 9, 10, 139])
  (.cond (.tmp 139)
  (.seq
  (.reg [⟨some 4, none, .mv (.val (.int .i64 5))⟩] [] [4])
  (.ret))
  (.skip))))
  (.reg [⟨some 116, none, .mv (.tmp 10)⟩,
    ⟨some 117, none, .bin .add (.tmp 116) (.val (.int .i64 1))⟩,
    ⟨some 10, none, .mv (.tmp 117)⟩] [] [2, 3, 6, 7, 8, 9, 10]))))))))
  (.reg [⟨some 106, none, .mv (.tmp 8)⟩,
    ⟨some 107, none, .bin .add (.tmp 106) (.val (.int .i64 1))⟩,
    ⟨some 8, none, .mv (.tmp 107)⟩] [] [2, 3, 6, 7, 8])))))))
  (.seq
  (.seq
  (.reg [⟨some 140, none, .faddr 0 (.tmp 3)⟩,
    ⟨some 141, none, .ld none (.tmp 140)⟩,
    ⟨some 142, none, .bin .eql (.tmp 141) (.val (.int .i64 1))⟩] [] [2, 3, 142])
  (.cond (.tmp 142)
  (.seq
  (.reg [⟨some 11, none, .mv (.val (.int .i64 6))⟩,
    ⟨some 12, none, .mv (.val (.int .i64 9))⟩] [] [2, 3, 11, 12])
  (.seq
  (.seq
  (.reg [⟨some 143, none, .ld (some 3) (.tmp 2)⟩,
    ⟨some 144, none, .ld (some 4) (.tmp 3)⟩,
    ⟨some 145, none, .call 36 .pure [(.tmp 143), (.tmp 144)]⟩,
    ⟨some 146, none, .bin .neq (.tmp 145) (.val (.int .i64 1))⟩] [] [2, 3, 11, 12, 146])
  (.cond (.tmp 146)
  (.reg [⟨some 11, none, .mv (.val (.int .i64 12))⟩,
    ⟨some 12, none, .mv (.val (.int .i64 3))⟩] [] [2, 3, 11, 12])
  (.skip)))
  (.seq
  (.reg [⟨some 147, none, .ld (some 3) (.tmp 2)⟩,
    ⟨some 148, none, .faddr 1 (.tmp 3)⟩,
    ⟨some 149, none, .ld none (.tmp 148)⟩,
    ⟨some 150, none, .call 57 .pure [(.tmp 147), (.tmp 149)]⟩,
    ⟨some 151, none, .mv (.tmp 11)⟩,
    ⟨some 152, none, .bin .neq (.tmp 150) (.tmp 151)⟩,
    ⟨some 153, none, .mv (.tmp 152)⟩,
    ⟨some 154, (some (153, false)), .ld (some 3) (.tmp 2)⟩,
    ⟨some 155, (some (153, false)), .faddr 2 (.tmp 3)⟩,
    ⟨some 156, (some (153, false)), .ld none (.tmp 155)⟩,
    ⟨some 157, (some (153, false)), .call 57 .pure [(.tmp 154), (.tmp 156)]⟩,
    ⟨some 158, (some (153, false)), .mv (.tmp 12)⟩,
    ⟨some 159, (some (153, false)), .bin .neq (.tmp 157) (.tmp 158)⟩,
    ⟨some 160, none, .pick (.tmp 153) (.val (.bool true)) (.tmp 159)⟩] [] [160])
  (.cond (.tmp 160)
  (.seq
  (.reg [⟨some 4, none, .mv (.val (.int .i64 5))⟩] [] [4])
  (.ret))
  (.skip)))))
  (.skip)))
  (.seq
  (.reg [⟨some 4, none, .mv (.val (.int .i64 0))⟩] [] [4])
  (.ret))))))))))))⟩
theorem pf30_ok : fnOk Try.prog 30 pf30 = true := by kernel_rfl

/-- hinterland/hinterlandref05.Validate -/
def pf14 : PFn := ⟨14, 2, [.tmp 4], .seq
  (.reg [⟨some 2, none, .boxp 24 (.tmp 0)⟩,
    ⟨some 3, none, .boxp 26 (.tmp 1)⟩,
    ⟨some 4, none, .mv (.val (.int .i64 0))⟩] [] [2, 3])
  (.seq
  (.seq
  (.reg [⟨some 6, none, .ld (some 3) (.tmp 2)⟩,
    ⟨some 7, none, .call 29 .pure [(.tmp 6)]⟩,
    ⟨some 5, none, .mv (.tmp 7)⟩] [] [2, 3, 5])
  (.seq
  (.reg [⟨some 8, none, .mv (.tmp 5)⟩,
    ⟨some 9, none, .bin .neq (.tmp 8) (.val (.int .i64 0))⟩] [] [2, 3, 5, 9])
  (.cond (.tmp 9)
  (.seq
  (.reg [⟨some 10, none, .mv (.tmp 5)⟩,
    ⟨some 4, none, .mv (.tmp 10)⟩] [] [4])
  (.ret))
  (.skip))))
  (.seq
  (.reg [⟨some 11, none, .ld (some 3) (.tmp 2)⟩,
    ⟨some 12, none, .ld (some 4) (.tmp 3)⟩,
    ⟨some 13, none, .call 30 .pure [(.tmp 11), (.tmp 12)]⟩,
    ⟨some 4, none, .mv (.tmp 13)⟩] [] [4])
  (.ret)))⟩
theorem pf14_ok : fnOk Try.prog 14 pf14 = true := by kernel_rfl

/-- hinterland/hinterlandlaw05.SpanValidates -/
def pf3 : PFn := ⟨22, 2, [.tmp 4], .seq
  (.reg [⟨some 2, none, .boxp 24 (.tmp 0)⟩,
    ⟨some 3, none, .boxp 26 (.tmp 1)⟩,
    ⟨some 4, none, .mv (.val (.bool false))⟩] [] [2, 3])
  (.seq
  (.reg [⟨some 5, none, .ld (some 3) (.tmp 2)⟩,
    ⟨some 6, none, .call 12 .pure [(.tmp 5), (.val (.list .nil 4 []))]⟩,
    ⟨some 7, none, .mv (.tmp 6)⟩,
    ⟨some 8, (some (7, true)), .call 13 .pure []⟩,
    ⟨some 9, none, .pick (.tmp 7) (.tmp 8) (.val (.bool false))⟩,
    ⟨some 10, none, .mv (.tmp 9)⟩,
    ⟨some 11, (some (10, false)), .ld (some 3) (.tmp 2)⟩,
    ⟨some 12, (some (10, false)), .ld (some 4) (.tmp 3)⟩,
    ⟨some 13, (some (10, false)), .call 14 .pure [(.tmp 11), (.tmp 12)]⟩,
    ⟨some 14, (some (10, false)), .ld (some 3) (.tmp 2)⟩,
    ⟨some 15, (some (10, false)), .ld (some 4) (.tmp 3)⟩,
    ⟨some 16, (some (10, false)), .call 15 .pure [(.tmp 14), (.tmp 15)]⟩,
    ⟨some 17, (some (10, false)), .bin .eql (.tmp 13) (.tmp 16)⟩,
    ⟨some 18, (some (10, false)), .mv (.tmp 17)⟩,
    ⟨some 19, (some (18, true)), .call 13 .pure []⟩,
    ⟨some 20, (some (10, false)), .pick (.tmp 18) (.tmp 19) (.val (.bool false))⟩,
    ⟨some 21, none, .pick (.tmp 10) (.val (.bool true)) (.tmp 20)⟩,
    ⟨some 4, none, .mv (.tmp 21)⟩] [] [4])
  (.ret))⟩
theorem pf3_ok : fnOk Try.prog 3 pf3 = true := by kernel_rfl

/-- hinterland/hinterlandref05.price -/
def pf33 : PFn := ⟨22, 2, [.tmp 4], .seq
  (.reg [⟨some 2, none, .boxp 24 (.tmp 0)⟩,
    ⟨some 3, none, .boxp 26 (.tmp 1)⟩,
    ⟨some 4, none, .mv (.val (.int .i64 0))⟩] [] [2, 3])
  (.seq
  (.reg [⟨some 6, none, .ld (some 3) (.tmp 2)⟩,
    ⟨some 7, none, .ld (some 4) (.tmp 3)⟩,
    ⟨some 8, none, .call 37 .pure [(.tmp 6), (.tmp 7)]⟩,
    ⟨some 9, none, .len (.tmp 8)⟩,
    ⟨some 5, none, .mv (.tmp 9)⟩] [] [3, 5])
  (.seq
  (.reg [⟨some 10, none, .faddr 0 (.tmp 3)⟩,
    ⟨some 11, none, .ld none (.tmp 10)⟩,
    ⟨some 12, none, .bin .add (.val (.int .i64 1)) (.tmp 11)⟩,
    ⟨some 13, none, .bin .mul (.tmp 12) (.val (.int .i64 1000))⟩,
    ⟨some 14, none, .mv (.tmp 5)⟩,
    ⟨some 15, none, .bin .mul (.tmp 13) (.tmp 14)⟩,
    ⟨some 16, none, .mv (.tmp 5)⟩,
    ⟨some 17, none, .mv (.tmp 5)⟩,
    ⟨some 18, none, .bin .mul (.tmp 16) (.tmp 17)⟩,
    ⟨some 19, none, .bin .mul (.tmp 18) (.val (.int .i64 1000))⟩,
    ⟨some 20, none, .bin .quo (.tmp 19) (.val (.int .i64 4))⟩,
    ⟨some 21, none, .bin .add (.tmp 15) (.tmp 20)⟩,
    ⟨some 4, none, .mv (.tmp 21)⟩] [] [4])
  (.ret)))⟩
theorem pf33_ok : fnOk Try.prog 33 pf33 = true := by kernel_rfl

/-- hinterland/hinterlandref05.Cost -/
def pf16 : PFn := ⟨16, 2, [.tmp 4, .tmp 5], .seq
  (.reg [⟨some 2, none, .boxp 24 (.tmp 0)⟩,
    ⟨some 3, none, .boxp 26 (.tmp 1)⟩,
    ⟨some 4, none, .mv (.val (.int .i64 0))⟩,
    ⟨some 5, none, .mv (.val (.int .i64 0))⟩] [] [2, 3])
  (.seq
  (.seq
  (.reg [⟨some 7, none, .ld (some 3) (.tmp 2)⟩,
    ⟨some 8, none, .ld (some 4) (.tmp 3)⟩,
    ⟨some 9, none, .call 14 .pure [(.tmp 7), (.tmp 8)]⟩,
    ⟨some 6, none, .mv (.tmp 9)⟩] [] [2, 3, 6])
  (.seq
  (.reg [⟨some 10, none, .mv (.tmp 6)⟩,
    ⟨some 11, none, .bin .neq (.tmp 10) (.val (.int .i64 0))⟩] [] [2, 3, 6, 11])
  (.cond (.tmp 11)
  (.seq
  (.reg [⟨some 12, none, .mv (.tmp 6)⟩,
    ⟨some 4, none, .mv (.val (.int .i64 0))⟩,
    ⟨some 5, none, .mv (.tmp 12)⟩] [] [4, 5])
  (.ret))
  (.skip))))
  (.seq
  (.reg [⟨some 13, none, .ld (some 3) (.tmp 2)⟩,
    ⟨some 14, none, .ld (some 4) (.tmp 3)⟩,
    ⟨some 15, none, .call 33 .pure [(.tmp 13), (.tmp 14)]⟩,
    ⟨some 4, none, .mv (.tmp 15)⟩,
    ⟨some 5, none, .mv (.val (.int .i64 0))⟩] [] [4, 5])
  (.ret)))⟩
theorem pf16_ok : fnOk Try.prog 16 pf16 = true := by kernel_rfl

/-- hinterland/hinterlandlaw05.SpanCosts -/
def pf4 : PFn := ⟨35, 2, [.tmp 4], .seq
  (.reg [⟨some 2, none, .boxp 24 (.tmp 0)⟩,
    ⟨some 3, none, .boxp 26 (.tmp 1)⟩,
    ⟨some 4, none, .mv (.val (.bool false))⟩] [] [2, 3])
  (.seq
  (.seq
  (.reg [⟨some 9, none, .ld (some 3) (.tmp 2)⟩,
    ⟨some 10, none, .call 12 .pure [(.tmp 9), (.val (.list .nil 4 []))]⟩] [] [2, 3, 10])
  (.cond (.tmp 10)
  (.seq
  (.reg [⟨some 11, none, .call 13 .pure []⟩,
    ⟨some 4, none, .mv (.tmp 11)⟩] [] [4])
  (.ret))
  (.skip)))
  (.seq
  (.reg [⟨some 13, none, .ld (some 3) (.tmp 2)⟩,
    ⟨some 14, none, .ld (some 4) (.tmp 3)⟩,
    ⟨some 15, none, .call 16 .pure [(.tmp 13), (.tmp 14)]⟩,
    ⟨some 12, none, .mv (.tmp 15)⟩,
    ⟨some 16, none, .ext 0 (.tmp 12)⟩,
    ⟨some 17, none, .ext 1 (.tmp 12)⟩,
    ⟨some 5, none, .mv (.tmp 16)⟩,
    ⟨some 6, none, .mv (.tmp 17)⟩] [] [2, 3, 5, 6])
  (.seq
  (.reg [⟨some 19, none, .ld (some 3) (.tmp 2)⟩,
    ⟨some 20, none, .ld (some 4) (.tmp 3)⟩,
    ⟨some 21, none, .call 17 .pure [(.tmp 19), (.tmp 20)]⟩,
    ⟨some 18, none, .mv (.tmp 21)⟩,
    ⟨some 22, none, .ext 0 (.tmp 18)⟩,
    ⟨some 23, none, .ext 1 (.tmp 18)⟩,
    ⟨some 7, none, .mv (.tmp 22)⟩,
    ⟨some 8, none, .mv (.tmp 23)⟩] [] [5, 6, 7, 8])
  (.seq
  (.reg [⟨some 24, none, .mv (.tmp 7)⟩,
    ⟨some 25, none, .mv (.tmp 5)⟩,
    ⟨some 26, none, .bin .eql (.tmp 24) (.tmp 25)⟩,
    ⟨some 27, none, .mv (.tmp 26)⟩,
    ⟨some 28, (some (27, true)), .mv (.tmp 8)⟩,
    ⟨some 29, (some (27, true)), .mv (.tmp 6)⟩,
    ⟨some 30, (some (27, true)), .bin .eql (.tmp 28) (.tmp 29)⟩,
    ⟨some 31, none, .pick (.tmp 27) (.tmp 30) (.val (.bool false))⟩,
    ⟨some 32, none, .mv (.tmp 31)⟩,
    ⟨some 33, (some (32, true)), .call 13 .pure []⟩,
    ⟨some 34, none, .pick (.tmp 32) (.tmp 33) (.val (.bool false))⟩,
    ⟨some 4, none, .mv (.tmp 34)⟩] [] [4])
  (.ret)))))⟩
theorem pf4_ok : fnOk Try.prog 4 pf4 = true := by kernel_rfl

/-- hinterland/hinterlandref05.less -/
def pf61 : PFn := ⟨40, 2, [.tmp 4], .seq
  (.reg [⟨some 2, none, .boxp 26 (.tmp 0)⟩,
    ⟨some 3, none, .boxp 26 (.tmp 1)⟩,
    ⟨some 4, none, .mv (.val (.bool false))⟩] [] [2, 3])
  (.seq
  (.seq
  (.reg [⟨some 5, none, .faddr 0 (.tmp 2)⟩,
    ⟨some 6, none, .ld none (.tmp 5)⟩,
    ⟨some 7, none, .faddr 0 (.tmp 3)⟩,
    ⟨some 8, none, .ld none (.tmp 7)⟩,
    ⟨some 9, none, .bin .neq (.tmp 6) (.tmp 8)⟩] [] [2, 3, 9])
  (.cond (.tmp 9)
  (.seq
  (.reg [⟨some 10, none, .faddr 0 (.tmp 2)⟩,
    ⟨some 11, none, .ld none (.tmp 10)⟩,
    ⟨some 12, none, .faddr 0 (.tmp 3)⟩,
    ⟨some 13, none, .ld none (.tmp 12)⟩,
    ⟨some 14, none, .bin .lss (.tmp 11) (.tmp 13)⟩,
    ⟨some 4, none, .mv (.tmp 14)⟩] [] [4])
  (.ret))
  (.skip)))
  (.seq
  (.seq
  (.reg [⟨some 15, none, .faddr 1 (.tmp 2)⟩,
    ⟨some 16, none, .ld none (.tmp 15)⟩,
    ⟨some 17, none, .faddr 1 (.tmp 3)⟩,
    ⟨some 18, none, .ld none (.tmp 17)⟩,
    ⟨some 19, none, .bin .neq (.tmp 16) (.tmp 18)⟩] [] [2, 3, 19])
  (.cond (.tmp 19)
  (.seq
  (.reg [⟨some 20, none, .faddr 1 (.tmp 2)⟩,
    ⟨some 21, none, .ld none (.tmp 20)⟩,
    ⟨some 22, none, .faddr 1 (.tmp 3)⟩,
    ⟨some 23, none, .ld none (.tmp 22)⟩,
    ⟨some 24, none, .bin .lss (.tmp 21) (.tmp 23)⟩,
    ⟨some 4, none, .mv (.tmp 24)⟩] [] [4])
  (.ret))
  (.skip)))
  (.seq
  (.seq
  (.reg [⟨some 25, none, .faddr 2 (.tmp 2)⟩,
    ⟨some 26, none, .ld none (.tmp 25)⟩,
    ⟨some 27, none, .faddr 2 (.tmp 3)⟩,
    ⟨some 28, none, .ld none (.tmp 27)⟩,
    ⟨some 29, none, .bin .neq (.tmp 26) (.tmp 28)⟩] [] [2, 3, 29])
  (.cond (.tmp 29)
  (.seq
  (.reg [⟨some 30, none, .faddr 2 (.tmp 2)⟩,
    ⟨some 31, none, .ld none (.tmp 30)⟩,
    ⟨some 32, none, .faddr 2 (.tmp 3)⟩,
    ⟨some 33, none, .ld none (.tmp 32)⟩,
    ⟨some 34, none, .bin .lss (.tmp 31) (.tmp 33)⟩,
    ⟨some 4, none, .mv (.tmp 34)⟩] [] [4])
  (.ret))
  (.skip)))
  (.seq
  (.reg [⟨some 35, none, .faddr 3 (.tmp 2)⟩,
    ⟨some 36, none, .ld none (.tmp 35)⟩,
    ⟨some 37, none, .faddr 3 (.tmp 3)⟩,
    ⟨some 38, none, .ld none (.tmp 37)⟩,
    ⟨some 39, none, .bin .lss (.tmp 36) (.tmp 38)⟩,
    ⟨some 4, none, .mv (.tmp 39)⟩] [] [4])
  (.ret)))))⟩
theorem pf61_ok : fnOk Try.prog 61 pf61 = true := by kernel_rfl

/-- hinterland/hinterlandref05.listError -/
def pf35 : PFn := ⟨42, 2, [.tmp 4], .seq
  (.reg [⟨some 2, none, .boxp 24 (.tmp 0)⟩,
    ⟨some 4, none, .mv (.val (.int .i64 0))⟩] [] [1, 2])
  (.seq
  (.seq
  (.reg [⟨some 7, none, .ld (some 3) (.tmp 2)⟩,
    ⟨some 8, none, .call 29 .pure [(.tmp 7)]⟩,
    ⟨some 5, none, .mv (.tmp 8)⟩] [] [1, 2, 5])
  (.seq
  (.reg [⟨some 9, none, .mv (.tmp 5)⟩,
    ⟨some 10, none, .bin .neq (.tmp 9) (.val (.int .i64 0))⟩] [] [1, 2, 5, 10])
  (.cond (.tmp 10)
  (.seq
  (.reg [⟨some 11, none, .mv (.tmp 5)⟩,
    ⟨some 4, none, .mv (.tmp 11)⟩] [] [4])
  (.ret))
  (.skip))))
  (.seq
  (.seq
  (.reg [⟨some 6, none, .mv (.val (.int .i64 0))⟩] [] [1, 2, 6])
  (.blk 0 (.loop (.seq
  (.seq
  (.reg [⟨some 12, none, .mv (.tmp 6)⟩,
    ⟨some 13, none, .mv (.tmp 1)⟩,
    ⟨some 14, none, .len (.tmp 13)⟩,
    ⟨some 15, none, .bin .lss (.tmp 12) (.tmp 14)⟩] [] [1, 2, 6, 15])
  (.cond (.tmp 15)
  (.skip)
  (.ext 0)))
  (.seq
  (.blk 1 (.seq
  (.reg [⟨some 18, none, .mv (.tmp 6)⟩,
    ⟨some 19, none, .bin .gtr (.tmp 18) (.val (.int .i64 0))⟩,
    ⟨some 20, none, .mv (.tmp 19)⟩,
    ⟨some 21, (some (20, true)), .mv (.tmp 1)⟩,
    ⟨some 22, (some (20, true)), .mv (.tmp 6)⟩,
    ⟨some 23, (some (20, true)), .bin .sub (.tmp 22) (.val (.int .i64 1))⟩,
    ⟨some 24, (some (20, true)), .iaS 4 (.tmp 21) (.tmp 23)⟩,
    ⟨some 25, (some (20, true)), .ld (some 4) (.tmp 24)⟩,
    ⟨some 26, (some (20, true)), .mv (.tmp 1)⟩,
    ⟨some 27, (some (20, true)), .mv (.tmp 6)⟩,
    ⟨some 28, (some (20, true)), .iaS 4 (.tmp 26) (.tmp 27)⟩,
    ⟨some 29, (some (20, true)), .ld (some 4) (.tmp 28)⟩,
    ⟨some 30, (some (20, true)), .call 61 .pure [(.tmp 25), (.tmp 29)]⟩,
    ⟨some 31, (some (20, true)), .un .not (.tmp 30)⟩,
    ⟨some 32, none, .pick (.tmp 20) (.tmp 31) (.val (.bool false))⟩,
    ⟨some 33, none, .mv (.tmp 32)⟩,
    ⟨some 34, (some (33, false)), .ld (some 3) (.tmp 2)⟩,
    ⟨some 35, (some (33, false)), .mv (.tmp 1)⟩,
    ⟨some 36, (some (33, false)), .mv (.tmp 6)⟩,
    ⟨some 37, (some (33, false)), .iaS 4 (.tmp 35) (.tmp 36)⟩,
    ⟨some 38, (some (33, false)), .ld (some 4) (.tmp 37)⟩,
    ⟨some 39, (some (33, false)), .call 30 .pure [(.tmp 34), (.tmp 38)]⟩,
    ⟨some 40, (some (33, false)), .bin .neq (.tmp 39) (.val (.int .i64 0))⟩,
    ⟨some 41, none, .pick (.tmp 33) (.val (.bool true)) (.tmp 40)⟩] [] [1, 2, 6, 41])
  (.cond (.tmp 41)
  (.seq
  (.reg [⟨some 4, none, .mv (.val (.int .i64 1))⟩] [] [4])
  (.ret))
  (.skip))))
  (.reg [⟨some 16, none, .mv (.tmp 6)⟩,
    ⟨some 17, none, .bin .add (.tmp 16) (.val (.int .i64 1))⟩,
    ⟨some 6, none, .mv (.tmp 17)⟩] [] [1, 2, 6]))))))
  (.seq
  (.reg [⟨some 4, none, .mv (.val (.int .i64 0))⟩] [] [4])
  (.ret))))⟩
theorem pf35_ok : fnOk Try.prog 35 pf35 = true := by kernel_rfl

/-- hinterland/hinterlandref05.Cross -/
def pf18 : PFn := ⟨91, 4, [.tmp 8, .tmp 9, .tmp 10], .seq
  (.reg [⟨some 4, none, .boxp 24 (.tmp 0)⟩,
    ⟨some 8, none, .mv (.val (.int .i64 0))⟩,
    ⟨some 9, none, .mv (.val (.int .i64 0))⟩,
    ⟨some 10, none, .mv (.val (.int .i64 0))⟩] [] [1, 2, 3, 4])
  (.seq
  (.seq
  (.reg [⟨some 15, none, .ld (some 3) (.tmp 4)⟩,
    ⟨some 16, none, .mv (.tmp 1)⟩,
    ⟨some 17, none, .call 35 .pure [(.tmp 15), (.tmp 16)]⟩,
    ⟨some 11, none, .mv (.tmp 17)⟩] [] [1, 2, 3, 4, 11])
  (.seq
  (.reg [⟨some 18, none, .mv (.tmp 11)⟩,
    ⟨some 19, none, .bin .neq (.tmp 18) (.val (.int .i64 0))⟩] [] [1, 2, 3, 4, 11, 19])
  (.cond (.tmp 19)
  (.seq
  (.reg [⟨some 20, none, .mv (.tmp 11)⟩,
    ⟨some 8, none, .mv (.val (.int .i64 0))⟩,
    ⟨some 9, none, .mv (.val (.int .i64 0))⟩,
    ⟨some 10, none, .mv (.tmp 20)⟩] [] [8, 9, 10])
  (.ret))
  (.skip))))
  (.seq
  (.seq
  (.reg [⟨some 21, none, .mv (.tmp 3)⟩,
    ⟨some 22, none, .bin .lss (.tmp 21) (.val (.int .i64 0))⟩,
    ⟨some 23, none, .mv (.tmp 22)⟩,
    ⟨some 24, (some (23, false)), .mv (.tmp 3)⟩,
    ⟨some 25, (some (23, false)), .bin .gtr (.tmp 24) (.val (.int .i64 3))⟩,
    ⟨some 26, none, .pick (.tmp 23) (.val (.bool true)) (.tmp 25)⟩] [] [1, 2, 3, 4, 26])
  (.cond (.tmp 26)
  (.seq
  (.reg [⟨some 8, none, .mv (.val (.int .i64 0))⟩,
    ⟨some 9, none, .mv (.val (.int .i64 0))⟩,
    ⟨some 10, none, .mv (.val (.int .i64 1))⟩] [] [8, 9, 10])
  (.ret))
  (.skip)))
  (.seq
  (.seq
  (.reg [⟨some 12, none, .mv (.val (.int .i64 0))⟩] [] [1, 2, 3, 4, 12])
  (.blk 0 (.loop (.trim (.seq
  (.seq
  (.reg [⟨some 27, none, .mv (.tmp 12)⟩,
    ⟨some 28, none, .mv (.tmp 1)⟩,
    ⟨some 29, none, .len (.tmp 28)⟩,
    ⟨some 30, none, .bin .lss (.tmp 27) (.tmp 29)⟩] [] [1, 2, 3, 4, 12, 30])
  (.cond (.tmp 30)
  (.skip)
  (.ext 0)))
  (.seq
  (.blk 1 (.seq
  (.reg [⟨some 33, none, .mv (.tmp 1)⟩,
    ⟨some 34, none, .mv (.tmp 12)⟩,
    ⟨some 35, none, .iaS 4 (.tmp 33) (.tmp 34)⟩,
    ⟨some 36, none, .ld (some 4) (.tmp 35)⟩,
    ⟨some 13, none, .zer 26 (.agg [(.int .i64 0), (.int .i64 0), (.int .i64 0), (.int .i64 0)])⟩,
    ⟨none, none, .st 4 (.tmp 13) (.tmp 36)⟩] [] [1, 2, 3, 4, 12, 13])
  (.seq
  (.reg [⟨some 37, none, .ld (some 3) (.tmp 4)⟩,
    ⟨some 38, none, .ld (some 4) (.tmp 13)⟩,
    ⟨some 39, none, .call 36 .pure [(.tmp 37), (.tmp 38)]⟩,
    ⟨some 40, none, .bin .eql (.tmp 39) (.val (.int .i64 1))⟩,
    ⟨some 14, none, .mv (.tmp 40)⟩] [] [1, 2, 3, 4, 12, 13, 14])
  (.seq
  (.seq
  (.reg [⟨some 41, none, .faddr 1 (.tmp 13)⟩,
    ⟨some 42, none, .ld none (.tmp 41)⟩,
    ⟨some 43, none, .mv (.tmp 2)⟩,
    ⟨some 44, none, .bin .eql (.tmp 42) (.tmp 43)⟩,
    ⟨some 45, none, .mv (.tmp 44)⟩,
    ⟨some 46, (some (45, true)), .mv (.tmp 14)⟩,
    ⟨some 47, (some (45, true)), .mv (.tmp 46)⟩,
    ⟨some 48, (some (47, true)), .mv (.tmp 3)⟩,
    ⟨some 49, (some (47, true)), .bin .eql (.tmp 48) (.val (.int .i64 0))⟩,
    ⟨some 50, (some (45, true)), .pick (.tmp 47) (.tmp 49) (.val (.bool false))⟩,
    ⟨some 51, (some (45, true)), .mv (.tmp 50)⟩,
    ⟨some 52, (some (51, false)), .mv (.tmp 14)⟩,
    ⟨some 53, (some (51, false)), .un .not (.tmp 52)⟩,
    ⟨some 54, (some (51, false)), .mv (.tmp 53)⟩,
    ⟨some 55, (some (54, true)), .mv (.tmp 3)⟩,
    ⟨some 56, (some (54, true)), .bin .eql (.tmp 55) (.val (.int .i64 1))⟩,
    ⟨some 57, (some (51, false)), .pick (.tmp 54) (.tmp 56) (.val (.bool false))⟩,
    ⟨some 58, (some (45, true)), .pick (.tmp 51) (.val (.bool true)) (.tmp 57)⟩,
    ⟨some 59, none, .pick (.tmp 45) (.tmp 58) (.val (.bool false))⟩] [] [1, 2, 3, 4, 12, 13, 14, 59])
  (.cond (.tmp 59)
  (.seq
  (.reg [⟨some 60, none, .faddr 2 (.tmp 13)⟩,
    ⟨some 61, none, .ld none (.tmp 60)⟩,
    ⟨some 62, none, .ld (some 3) (.tmp 4)⟩,
    ⟨some 63, none, .ld (some 4) (.tmp 13)⟩,
    ⟨some 64, none, .call 37 .pure [(.tmp 62), (.tmp 63)]⟩,
    ⟨some 65, none, .len (.tmp 64)⟩,
    ⟨some 8, none, .mv (.tmp 61)⟩,
    ⟨some 9, none, .mv (.tmp 65)⟩,
    ⟨some 10, none, .mv (.val (.int .i64 0))⟩] [] [8, 9, 10])
  (.ret))
  (.skip)))
  (.seq
  (.reg [⟨some 66, none, .faddr 2 (.tmp 13)⟩,
    ⟨some 67, none, .ld none (.tmp 66)⟩,
    ⟨some 68, none, .mv (.tmp 2)⟩,
    ⟨some 69, none, .bin .eql (.tmp 67) (.tmp 68)⟩,
    ⟨some 70, none, .mv (.tmp 69)⟩,
    ⟨some 71, (some (70, true)), .mv (.tmp 14)⟩,
    ⟨some 72, (some (70, true)), .mv (.tmp 71)⟩,
    ⟨some 73, (some (72, true)), .mv (.tmp 3)⟩,
    ⟨some 74, (some (72, true)), .bin .eql (.tmp 73) (.val (.int .i64 2))⟩,
    ⟨some 75, (some (70, true)), .pick (.tmp 72) (.tmp 74) (.val (.bool false))⟩,
    ⟨some 76, (some (70, true)), .mv (.tmp 75)⟩,
    ⟨some 77, (some (76, false)), .mv (.tmp 14)⟩,
    ⟨some 78, (some (76, false)), .un .not (.tmp 77)⟩,
    ⟨some 79, (some (76, false)), .mv (.tmp 78)⟩,
    ⟨some 80, (some (79, true)), .mv (.tmp 3)⟩,
    ⟨some 81, (some (79, true)), .bin .eql (.tmp 80) (.val (.int .i64 3))⟩,
    ⟨some 82, (some (76, false)), .pick (.tmp 79) (.tmp 81) (.val (.bool false))⟩,
    ⟨some 83, (some (70, true)), .pick (.tmp 76) (.val (.bool true)) (.tmp 82)⟩,
    ⟨some 84, none, .pick (.tmp 70) (.tmp 83) (.val (.bool false))⟩] [] [1, 2, 3, 4, 12, 13, 84])
  (.cond (.tmp 84)
  (.seq
  (.reg [⟨some 85, none, .faddr 1 (.tmp 13)⟩,
    ⟨some 86, none, .ld none (.tmp 85)⟩,
    ⟨some 87, none, .ld (some 3) (.tmp 4)⟩,
    ⟨some 88, none, .ld (some 4) (.tmp 13)⟩,
    ⟨some 89, none, .call 37 .pure [(.tmp 87), (.tmp 88)]⟩,
    ⟨some 90, none, .len (.tmp 89)⟩,
    ⟨some 8, none, .mv (.tmp 86)⟩,
    ⟨some 9, none, .mv (.tmp 90)⟩,
    ⟨some 10, none, .mv (.val (.int .i64 0))⟩] [] [8, 9, 10])
  (.ret))
  (.skip)))))))
  (.reg [⟨some 31, none, .mv (.tmp 12)⟩,
    ⟨some 32, none, .bin .add (.tmp 31) (.val (.int .i64 1))⟩,
    ⟨some 12, none, .mv (.tmp 32)⟩] [] [1, 2, 3, 4, 12])))))))
  (.seq
  (.reg [⟨some 8, none, .mv (.val (.int .i64 0))⟩,
    ⟨some 9, none, .mv (.val (.int .i64 0))⟩,
    ⟨some 10, none, .mv (.val (.int .i64 2))⟩] [] [8, 9, 10])
  (.ret)))))⟩
theorem pf18_ok : fnOk Try.prog 18 pf18 = true := by kernel_rfl

/-- cmp.Or[int] -/
def pf69 : PFn := ⟨18, 1, [.tmp 2], .seq
  (.reg [⟨some 2, none, .mv (.val (.int .i64 0))⟩] [] [0])
  (.seq
  (.reg [⟨some 3, none, .mv (.val (.int .i64 0))⟩] [] [0, 3])
  (.seq
  (.seq
  (.reg [⟨some 6, none, .mv (.tmp 0)⟩,
    ⟨some 7, none, .len (.tmp 6)⟩,
    ⟨some 8, none, .mv (.val (.int .i64 0))⟩] [] [3, 6, 7, 8])
  (.blk 0 (.loop (.seq
  (.reg [⟨some 9, none, .bin .lss (.tmp 8) (.tmp 7)⟩] [] [3, 6, 7, 8, 9])
  (.seq
  (.cond (.tmp 9)
  (.skip)
  (.ext 0))
  (.seq
  (.blk 1 (.seq
  (.reg [⟨some 10, none, .iaS 1 (.tmp 6) (.tmp 8)⟩,
    ⟨some 11, none, .ld none (.tmp 10)⟩,
    ⟨some 5, none, .mv (.tmp 11)⟩] [] [3, 5, 6, 7, 8])
  (.seq
  (.reg [⟨some 12, none, .mv (.tmp 5)⟩,
    ⟨some 13, none, .mv (.tmp 3)⟩,
    ⟨some 14, none, .bin .neq (.tmp 12) (.tmp 13)⟩] [] [3, 5, 6, 7, 8, 14])
  (.cond (.tmp 14)
  (.seq
  (.reg [⟨some 15, none, .mv (.tmp 5)⟩,
    ⟨some 2, none, .mv (.tmp 15)⟩] [] [2])
  (.ret))
  (.skip)))))
  (.reg [⟨some 16, none, .bin .add (.tmp 8) (.val (.int .i64 1))⟩,
    ⟨some 8, none, .mv (.tmp 16)⟩] [] [3, 6, 7, 8])))))))
  (.seq
  (.reg [⟨some 17, none, .mv (.tmp 3)⟩,
    ⟨some 2, none, .mv (.tmp 17)⟩] [] [2])
  (.ret))))⟩
theorem pf69_ok : fnOk Try.prog 69 pf69 = true := by kernel_rfl

/-- cmp.isNaN[int] -/
def pf94 : PFn := ⟨6, 1, [.tmp 2], .seq
  (.reg [⟨some 2, none, .mv (.val (.bool false))⟩] [] [0])
  (.seq
  (.reg [⟨some 3, none, .mv (.tmp 0)⟩,
    ⟨some 4, none, .mv (.tmp 0)⟩,
    ⟨some 5, none, .bin .neq (.tmp 3) (.tmp 4)⟩,
    ⟨some 2, none, .mv (.tmp 5)⟩] [] [2])
  (.ret))⟩
theorem pf94_ok : fnOk Try.prog 94 pf94 = true := by kernel_rfl

/-- cmp.Compare[int] -/
def pf70 : PFn := ⟨20, 2, [.tmp 4], .seq
  (.reg [⟨some 4, none, .mv (.val (.int .i64 0))⟩] [] [0, 1])
  (.seq
  (.reg [⟨some 7, none, .mv (.tmp 0)⟩,
    ⟨some 8, none, .call 94 .pure [(.tmp 7)]⟩,
    ⟨some 5, none, .mv (.tmp 8)⟩] [] [0, 1, 5])
  (.seq
  (.reg [⟨some 9, none, .mv (.tmp 1)⟩,
    ⟨some 10, none, .call 94 .pure [(.tmp 9)]⟩,
    ⟨some 6, none, .mv (.tmp 10)⟩] [] [0, 1, 5, 6])
  (.seq
  (.seq
  (.reg [⟨some 11, none, .mv (.tmp 5)⟩] [] [0, 1, 6, 11])
  (.cond (.tmp 11)
  (.seq
  (.seq
  (.reg [⟨some 12, none, .mv (.tmp 6)⟩] [] [12])
  (.cond (.tmp 12)
  (.seq
  (.reg [⟨some 4, none, .mv (.val (.int .i64 0))⟩] [] [4])
  (.ret))
  (.skip)))
  (.seq
  (.reg [⟨some 4, none, .mv (.val (.int .i64 (-1)))⟩] [] [4])
  (.ret)))
  (.skip)))
  (.seq
  (.seq
  (.reg [⟨some 13, none, .mv (.tmp 6)⟩] [] [0, 1, 13])
  (.cond (.tmp 13)
  (.seq
  (.reg [⟨some 4, none, .mv (.val (.int .i64 1))⟩] [] [4])
  (.ret))
  (.skip)))
  (.seq
  (.seq
  (.reg [⟨some 14, none, .mv (.tmp 0)⟩,
    ⟨some 15, none, .mv (.tmp 1)⟩,
    ⟨some 16, none, .bin .lss (.tmp 14) (.tmp 15)⟩] [] [0, 1, 16])
  (.cond (.tmp 16)
  (.seq
  (.reg [⟨some 4, none, .mv (.val (.int .i64 (-1)))⟩] [] [4])
  (.ret))
  (.skip)))
  (.seq
  (.seq
  (.reg [⟨some 17, none, .mv (.tmp 0)⟩,
    ⟨some 18, none, .mv (.tmp 1)⟩,
    ⟨some 19, none, .bin .gtr (.tmp 17) (.tmp 18)⟩] [] [19])
  (.cond (.tmp 19)
  (.seq
  (.reg [⟨some 4, none, .mv (.val (.int .i64 1))⟩] [] [4])
  (.ret))
  (.skip)))
  (.seq
  (.reg [⟨some 4, none, .mv (.val (.int .i64 0))⟩] [] [4])
  (.ret))))))))⟩
theorem pf70_ok : fnOk Try.prog 70 pf70 = true := by kernel_rfl

/-- hinterland/span.compare -/
def pf53 : PFn := ⟨27, 2, [.tmp 4], .seq
  (.reg [⟨some 2, none, .boxp 26 (.tmp 0)⟩,
    ⟨some 3, none, .boxp 26 (.tmp 1)⟩,
    ⟨some 4, none, .mv (.val (.int .i64 0))⟩] [] [2, 3])
  (.seq
  (.reg [⟨some 5, none, .faddr 0 (.tmp 2)⟩,
    ⟨some 6, none, .ld none (.tmp 5)⟩,
    ⟨some 7, none, .faddr 0 (.tmp 3)⟩,
    ⟨some 8, none, .ld none (.tmp 7)⟩,
    ⟨some 9, none, .call 70 .pure [(.tmp 6), (.tmp 8)]⟩,
    ⟨some 10, none, .faddr 1 (.tmp 2)⟩,
    ⟨some 11, none, .ld none (.tmp 10)⟩,
    ⟨some 12, none, .faddr 1 (.tmp 3)⟩,
    ⟨some 13, none, .ld none (.tmp 12)⟩,
    ⟨some 14, none, .call 70 .pure [(.tmp 11), (.tmp 13)]⟩,
    ⟨some 15, none, .faddr 2 (.tmp 2)⟩,
    ⟨some 16, none, .ld none (.tmp 15)⟩,
    ⟨some 17, none, .faddr 2 (.tmp 3)⟩,
    ⟨some 18, none, .ld none (.tmp 17)⟩,
    ⟨some 19, none, .call 70 .pure [(.tmp 16), (.tmp 18)]⟩,
    ⟨some 20, none, .faddr 3 (.tmp 2)⟩,
    ⟨some 21, none, .ld none (.tmp 20)⟩,
    ⟨some 22, none, .faddr 3 (.tmp 3)⟩,
    ⟨some 23, none, .ld none (.tmp 22)⟩,
    ⟨some 24, none, .call 70 .pure [(.tmp 21), (.tmp 23)]⟩,
    ⟨some 25, none, .bsl 4 1 [(.int .i64 0)] [(0, 1, (.tmp 9)), (1, 1, (.tmp 14)), (2, 1, (.tmp 19)), (3, 1, (.tmp 24))]⟩,
    ⟨some 26, none, .call 69 .pure [(.tmp 25)]⟩,
    ⟨some 4, none, .mv (.tmp 26)⟩] [] [4])
  (.ret))⟩
theorem pf53_ok : fnOk Try.prog 53 pf53 = true := by kernel_rfl

/-- hinterland/span.list -/
def pf38 : PFn := ⟨39, 2, [.tmp 4], .seq
  (.reg [⟨some 2, none, .boxp 24 (.tmp 0)⟩,
    ⟨some 4, none, .mv (.val (.int .i64 0))⟩] [] [1, 2])
  (.seq
  (.seq
  (.reg [⟨some 8, none, .ld (some 3) (.tmp 2)⟩,
    ⟨some 9, none, .call 31 .pure [(.tmp 8)]⟩,
    ⟨some 5, none, .mv (.tmp 9)⟩] [] [1, 2, 5])
  (.seq
  (.reg [⟨some 10, none, .mv (.tmp 5)⟩,
    ⟨some 11, none, .bin .neq (.tmp 10) (.val (.int .i64 0))⟩] [] [1, 2, 5, 11])
  (.cond (.tmp 11)
  (.seq
  (.reg [⟨some 12, none, .mv (.tmp 5)⟩,
    ⟨some 4, none, .mv (.tmp 12)⟩] [] [4])
  (.ret))
  (.skip))))
  (.seq
  (.seq
  (.reg [⟨some 13, none, .mv (.tmp 1)⟩,
    ⟨some 14, none, .len (.tmp 13)⟩,
    ⟨some 15, none, .mv (.val (.int .i64 0))⟩] [] [1, 2, 13, 14, 15])
  (.blk 0 (.loop (.trim (.seq
  (.reg [⟨some 16, none, .bin .lss (.tmp 15) (.tmp 14)⟩] [] [1, 2, 13, 14, 15, 16])
  (.seq
  (.cond (.tmp 16)
  (.skip)
  (.ext 0))
  (.seq
  (.blk 1 (.seq
  (.reg [⟨some 17, none, .mv (.tmp 15)⟩,
    ⟨some 18, none, .iaS 4 (.tmp 13) (.tmp 15)⟩,
    ⟨some 19, none, .ld (some 4) (.tmp 18)⟩,
    ⟨some 7, none, .zer 26 (.agg [(.int .i64 0), (.int .i64 0), (.int .i64 0), (.int .i64 0)])⟩,
    ⟨some 6, none, .mv (.tmp 17)⟩,
    ⟨none, none, .st 4 (.tmp 7) (.tmp 19)⟩] [] [1, 2, 6, 7, 13, 14, 15])
  (.seq
  (.reg [⟨some 20, none, .mv (.tmp 6)⟩,
    ⟨some 21, none, .bin .gtr (.tmp 20) (.val (.int .i64 0))⟩,
    ⟨some 22, none, .mv (.tmp 21)⟩,
    ⟨some 23, (some (22, true)), .mv (.tmp 1)⟩,
    ⟨some 24, (some (22, true)), .mv (.tmp 6)⟩,
    ⟨some 25, (some (22, true)), .bin .sub (.tmp 24) (.val (.int .i64 1))⟩,
    ⟨some 26, (some (22, true)), .iaS 4 (.tmp 23) (.tmp 25)⟩,
    ⟨some 27, (some (22, true)), .ld (some 4) (.tmp 26)⟩,
    ⟨some 28, (some (22, true)), .ld (some 4) (.tmp 7)⟩,
    ⟨some 29, (some (22, true)), .call 53 .pure [(.tmp 27), (.tmp 28)]⟩,
    ⟨some 30, (some (22, true)), .bin .geq (.tmp 29) (.val (.int .i64 0))⟩,
    ⟨some 31, none, .pick (.tmp 22) (.tmp 30) (.val (.bool false))⟩,
    ⟨some 32, none, .mv (.tmp 31)⟩,
    ⟨some 33, (some (32, false)), .ld (some 3) (.tmp 2)⟩,
    ⟨some 34, (some (32, false)), .ld (some 4) (.tmp 7)⟩,
    ⟨some 35, (some (32, false)), .call 32 .pure [(.tmp 33), (.tmp 34)]⟩,
    ⟨some 36, (some (32, false)), .bin .neq (.tmp 35) (.val (.int .i64 0))⟩,
    ⟨some 37, none, .pick (.tmp 32) (.val (.bool true)) (.tmp 36)⟩] [] [1, 2, 13, 14, 15, 37])
  (.cond (.tmp 37)
  (.seq
  (.reg [⟨some 4, none, .mv (.val (.int .i64 1))⟩] [] [4])
  (.ret))
  (.skip)))))
  (.reg [⟨some 38, none, .bin .add (.tmp 15) (.val (.int .i64 1))⟩,
    ⟨some 15, none, .mv (.tmp 38)⟩] [] [1, 2, 13, 14, 15]))))))))
  (.seq
  (.reg [⟨some 4, none, .mv (.val (.int .i64 0))⟩] [] [4])
  (.ret))))⟩
theorem pf38_ok : fnOk Try.prog 38 pf38 = true := by kernel_rfl

/-- hinterland/span.Cross -/
def pf19 : PFn := ⟨72, 4, [.tmp 8, .tmp 9, .tmp 10], .seq
  (.reg [⟨some 4, none, .boxp 24 (.tmp 0)⟩,
    ⟨some 8, none, .mv (.val (.int .i64 0))⟩,
    ⟨some 9, none, .mv (.val (.int .i64 0))⟩,
    ⟨some 10, none, .mv (.val (.int .i64 0))⟩] [] [1, 2, 3, 4])
  (.seq
  (.seq
  (.reg [⟨some 16, none, .ld (some 3) (.tmp 4)⟩,
    ⟨some 17, none, .mv (.tmp 1)⟩,
    ⟨some 18, none, .call 38 .pure [(.tmp 16), (.tmp 17)]⟩,
    ⟨some 11, none, .mv (.tmp 18)⟩] [] [1, 2, 3, 4, 11])
  (.seq
  (.reg [⟨some 19, none, .mv (.tmp 11)⟩,
    ⟨some 20, none, .bin .neq (.tmp 19) (.val (.int .i64 0))⟩] [] [1, 2, 3, 4, 11, 20])
  (.cond (.tmp 20)
  (.seq
  (.reg [⟨some 21, none, .mv (.tmp 11)⟩,
    ⟨some 8, none, .mv (.val (.int .i64 0))⟩,
    ⟨some 9, none, .mv (.val (.int .i64 0))⟩,
    ⟨some 10, none, .mv (.tmp 21)⟩] [] [8, 9, 10])
  (.ret))
  (.skip))))
  (.seq
  (.seq
  (.reg [⟨some 22, none, .mv (.tmp 3)⟩,
    ⟨some 23, none, .bin .lss (.tmp 22) (.val (.int .i64 0))⟩,
    ⟨some 24, none, .mv (.tmp 23)⟩,
    ⟨some 25, (some (24, false)), .mv (.tmp 3)⟩,
    ⟨some 26, (some (24, false)), .bin .gtr (.tmp 25) (.val (.int .i64 3))⟩,
    ⟨some 27, none, .pick (.tmp 24) (.val (.bool true)) (.tmp 26)⟩] [] [1, 2, 3, 4, 27])
  (.cond (.tmp 27)
  (.seq
  (.reg [⟨some 8, none, .mv (.val (.int .i64 0))⟩,
    ⟨some 9, none, .mv (.val (.int .i64 0))⟩,
    ⟨some 10, none, .mv (.val (.int .i64 1))⟩] [] [8, 9, 10])
  (.ret))
  (.skip)))
  (.seq
  (.seq
  (.reg [⟨some 28, none, .mv (.tmp 1)⟩,
    ⟨some 29, none, .len (.tmp 28)⟩,
    ⟨some 30, none, .mv (.val (.int .i64 0))⟩] [] [2, 3, 4, 28, 29, 30])
  (.blk 0 (.loop (.trim (.seq
  (.reg [⟨some 31, none, .bin .lss (.tmp 30) (.tmp 29)⟩] [] [2, 3, 4, 28, 29, 30, 31])
  (.seq
  (.cond (.tmp 31)
  (.skip)
  (.ext 0))
  (.seq
  (.blk 1 (.seq
  (.reg [⟨some 32, none, .iaS 4 (.tmp 28) (.tmp 30)⟩,
    ⟨some 33, none, .ld (some 4) (.tmp 32)⟩,
    ⟨some 13, none, .zer 26 (.agg [(.int .i64 0), (.int .i64 0), (.int .i64 0), (.int .i64 0)])⟩,
    ⟨none, none, .st 4 (.tmp 13) (.tmp 33)⟩] [] [2, 3, 4, 13, 28, 29, 30])
  (.seq
  (.reg [⟨some 35, none, .ld (some 3) (.tmp 4)⟩,
    ⟨some 36, none, .ld (some 4) (.tmp 13)⟩,
    ⟨some 37, none, .call 39 .pure [(.tmp 35), (.tmp 36)]⟩,
    ⟨some 34, none, .mv (.tmp 37)⟩,
    ⟨some 38, none, .ext 0 (.tmp 34)⟩,
    ⟨some 39, none, .ext 1 (.tmp 34)⟩,
    ⟨some 14, none, .mv (.tmp 38)⟩,
    ⟨some 15, none, .mv (.tmp 39)⟩] [] [2, 3, 4, 13, 15, 28, 29, 30])
  (.blk 2 (.seq
  (.reg [⟨some 41, none, .faddr 1 (.tmp 13)⟩,
    ⟨some 42, none, .ld none (.tmp 41)⟩,
    ⟨some 43, none, .mv (.tmp 2)⟩,
    ⟨some 44, none, .bin .eql (.tmp 42) (.tmp 43)⟩,
    ⟨some 45, none, .mv (.tmp 44)⟩,
    ⟨some 46, (some (45, true)), .mv (.tmp 3)⟩,
    ⟨some 47, (some (45, true)), .mv (.tmp 15)⟩,
    ⟨some 48, (some (45, true)), .bin .eql (.tmp 46) (.tmp 47)⟩,
    ⟨some 49, none, .pick (.tmp 45) (.tmp 48) (.val (.bool false))⟩,
    ⟨some 40, none, .mv (.tmp 49)⟩] [] [2, 3, 4, 13, 15, 28, 29, 30, 40])
  (.cond (.tmp 40)
  (.seq
  (.reg [⟨some 50, none, .faddr 2 (.tmp 13)⟩,
    ⟨some 51, none, .ld none (.tmp 50)⟩,
    ⟨some 52, none, .ld (some 3) (.tmp 4)⟩,
    ⟨some 53, none, .ld (some 4) (.tmp 13)⟩,
    ⟨some 54, none, .call 40 .pure [(.tmp 52), (.tmp 53)]⟩,
    ⟨some 8, none, .mv (.tmp 51)⟩,
    ⟨some 9, none, .mv (.tmp 54)⟩,
    ⟨some 10, none, .mv (.val (.int .i64 0))⟩] [] [8, 9, 10])
  (.ret))
  (.seq
  (.reg [⟨some 56, none, .faddr 2 (.tmp 13)⟩,
    ⟨some 57, none, .ld none (.tmp 56)⟩,
    ⟨some 58, none, .mv (.tmp 2)⟩,
    ⟨some 59, none, .bin .eql (.tmp 57) (.tmp 58)⟩,
    ⟨some 60, none, .mv (.tmp 59)⟩,
    ⟨some 61, (some (60, true)), .mv (.tmp 3)⟩,
    ⟨some 62, (some (60, true)), .mv (.tmp 15)⟩,
    ⟨some 63, (some (60, true)), .bin .add (.tmp 62) (.val (.int .i64 2))⟩,
    ⟨some 64, (some (60, true)), .bin .eql (.tmp 61) (.tmp 63)⟩,
    ⟨some 65, none, .pick (.tmp 60) (.tmp 64) (.val (.bool false))⟩,
    ⟨some 55, none, .mv (.tmp 65)⟩] [] [2, 3, 4, 13, 28, 29, 30, 55])
  (.cond (.tmp 55)
  (.seq
  (.reg [⟨some 66, none, .faddr 1 (.tmp 13)⟩,
    ⟨some 67, none, .ld none (.tmp 66)⟩,
    ⟨some 68, none, .ld (some 3) (.tmp 4)⟩,
    ⟨some 69, none, .ld (some 4) (.tmp 13)⟩,
    ⟨some 70, none, .call 40 .pure [(.tmp 68), (.tmp 69)]⟩,
    ⟨some 8, none, .mv (.tmp 67)⟩,
    ⟨some 9, none, .mv (.tmp 70)⟩,
    ⟨some 10, none, .mv (.val (.int .i64 0))⟩] [] [8, 9, 10])
  (.ret))
  (.skip)))))))))
  (.reg [⟨some 71, none, .bin .add (.tmp 30) (.val (.int .i64 1))⟩,
    ⟨some 30, none, .mv (.tmp 71)⟩] [] [2, 3, 4, 28, 29, 30]))))))))
  (.seq
  (.reg [⟨some 8, none, .mv (.val (.int .i64 0))⟩,
    ⟨some 9, none, .mv (.val (.int .i64 0))⟩,
    ⟨some 10, none, .mv (.val (.int .i64 2))⟩] [] [8, 9, 10])
  (.ret)))))⟩
theorem pf19_ok : fnOk Try.prog 19 pf19 = true := by kernel_rfl

/-- hinterland/hinterlandlaw05.SpanCrosses -/
def pf5 : PFn := ⟨53, 4, [.tmp 8], .seq
  (.reg [⟨some 4, none, .boxp 24 (.tmp 0)⟩,
    ⟨some 8, none, .mv (.val (.bool false))⟩] [] [1, 2, 3, 4])
  (.seq
  (.seq
  (.reg [⟨some 15, none, .ld (some 3) (.tmp 4)⟩,
    ⟨some 16, none, .mv (.tmp 1)⟩,
    ⟨some 17, none, .call 12 .pure [(.tmp 15), (.tmp 16)]⟩] [] [1, 2, 3, 4, 17])
  (.cond (.tmp 17)
  (.seq
  (.reg [⟨some 18, none, .call 13 .pure []⟩,
    ⟨some 8, none, .mv (.tmp 18)⟩] [] [8])
  (.ret))
  (.skip)))
  (.seq
  (.reg [⟨some 20, none, .ld (some 3) (.tmp 4)⟩,
    ⟨some 21, none, .mv (.tmp 1)⟩,
    ⟨some 22, none, .mv (.tmp 2)⟩,
    ⟨some 23, none, .mv (.tmp 3)⟩,
    ⟨some 24, none, .call 18 .pure [(.tmp 20), (.tmp 21), (.tmp 22), (.tmp 23)]⟩,
    ⟨some 19, none, .mv (.tmp 24)⟩,
    ⟨some 25, none, .ext 0 (.tmp 19)⟩,
    ⟨some 26, none, .ext 1 (.tmp 19)⟩,
    ⟨some 27, none, .ext 2 (.tmp 19)⟩,
    ⟨some 9, none, .mv (.tmp 25)⟩,
    ⟨some 10, none, .mv (.tmp 26)⟩,
    ⟨some 11, none, .mv (.tmp 27)⟩] [] [1, 2, 3, 4, 9, 10, 11])
  (.seq
  (.reg [⟨some 29, none, .ld (some 3) (.tmp 4)⟩,
    ⟨some 30, none, .mv (.tmp 1)⟩,
    ⟨some 31, none, .mv (.tmp 2)⟩,
    ⟨some 32, none, .mv (.tmp 3)⟩,
    ⟨some 33, none, .call 19 .pure [(.tmp 29), (.tmp 30), (.tmp 31), (.tmp 32)]⟩,
    ⟨some 28, none, .mv (.tmp 33)⟩,
    ⟨some 34, none, .ext 0 (.tmp 28)⟩,
    ⟨some 35, none, .ext 1 (.tmp 28)⟩,
    ⟨some 36, none, .ext 2 (.tmp 28)⟩,
    ⟨some 12, none, .mv (.tmp 34)⟩,
    ⟨some 13, none, .mv (.tmp 35)⟩,
    ⟨some 14, none, .mv (.tmp 36)⟩] [] [9, 10, 11, 12, 13, 14])
  (.seq
  (.reg [⟨some 37, none, .mv (.tmp 14)⟩,
    ⟨some 38, none, .mv (.tmp 11)⟩,
    ⟨some 39, none, .bin .eql (.tmp 37) (.tmp 38)⟩,
    ⟨some 40, none, .mv (.tmp 39)⟩,
    ⟨some 41, (some (40, true)), .mv (.tmp 12)⟩,
    ⟨some 42, (some (40, true)), .mv (.tmp 9)⟩,
    ⟨some 43, (some (40, true)), .bin .eql (.tmp 41) (.tmp 42)⟩,
    ⟨some 44, none, .pick (.tmp 40) (.tmp 43) (.val (.bool false))⟩,
    ⟨some 45, none, .mv (.tmp 44)⟩,
    ⟨some 46, (some (45, true)), .mv (.tmp 13)⟩,
    ⟨some 47, (some (45, true)), .mv (.tmp 10)⟩,
    ⟨some 48, (some (45, true)), .bin .eql (.tmp 46) (.tmp 47)⟩,
    ⟨some 49, none, .pick (.tmp 45) (.tmp 48) (.val (.bool false))⟩,
    ⟨some 50, none, .mv (.tmp 49)⟩,
    ⟨some 51, (some (50, true)), .call 13 .pure []⟩,
    ⟨some 52, none, .pick (.tmp 50) (.tmp 51) (.val (.bool false))⟩,
    ⟨some 8, none, .mv (.tmp 52)⟩] [] [8])
  (.ret)))))⟩
theorem pf5_ok : fnOk Try.prog 5 pf5 = true := by kernel_rfl

/-- hinterland/hinterlandref05.in -/
def pf41 : PFn := ⟨18, 2, [.tmp 4], .seq
  (.reg [⟨some 4, none, .mv (.val (.bool false))⟩] [] [0, 1])
  (.seq
  (.seq
  (.reg [⟨some 5, none, .mv (.val (.int .i64 0))⟩] [] [0, 1, 5])
  (.blk 0 (.loop (.seq
  (.seq
  (.reg [⟨some 6, none, .mv (.tmp 5)⟩,
    ⟨some 7, none, .mv (.tmp 0)⟩,
    ⟨some 8, none, .len (.tmp 7)⟩,
    ⟨some 9, none, .bin .lss (.tmp 6) (.tmp 8)⟩] [] [0, 1, 5, 9])
  (.cond (.tmp 9)
  (.skip)
  (.ext 0)))
  (.seq
  (.blk 1 (.seq
  (.reg [⟨some 12, none, .mv (.tmp 0)⟩,
    ⟨some 13, none, .mv (.tmp 5)⟩,
    ⟨some 14, none, .iaS 1 (.tmp 12) (.tmp 13)⟩,
    ⟨some 15, none, .ld none (.tmp 14)⟩,
    ⟨some 16, none, .mv (.tmp 1)⟩,
    ⟨some 17, none, .bin .eql (.tmp 15) (.tmp 16)⟩] [] [0, 1, 5, 17])
  (.cond (.tmp 17)
  (.seq
  (.reg [⟨some 4, none, .mv (.val (.bool true))⟩] [] [4])
  (.ret))
  (.skip))))
  (.reg [⟨some 10, none, .mv (.tmp 5)⟩,
    ⟨some 11, none, .bin .add (.tmp 10) (.val (.int .i64 1))⟩,
    ⟨some 5, none, .mv (.tmp 11)⟩] [] [0, 1, 5]))))))
  (.seq
  (.reg [⟨some 4, none, .mv (.val (.bool false))⟩] [] [4])
  (.ret)))⟩
theorem pf41_ok : fnOk Try.prog 41 pf41 = true := by kernel_rfl

/-- hinterland/hinterlandref05.Over -/
def pf20 : PFn := ⟨50, 3, [.tmp 6, .tmp 7], .seq
  (.reg [⟨some 3, none, .boxp 24 (.tmp 0)⟩,
    ⟨some 6, none, .mv (.val (.list .nil 1 []))⟩,
    ⟨some 7, none, .mv (.val (.int .i64 0))⟩] [] [1, 2, 3])
  (.seq
  (.seq
  (.reg [⟨some 11, none, .ld (some 3) (.tmp 3)⟩,
    ⟨some 12, none, .mv (.tmp 1)⟩,
    ⟨some 13, none, .call 35 .pure [(.tmp 11), (.tmp 12)]⟩,
    ⟨some 8, none, .mv (.tmp 13)⟩] [] [1, 2, 3, 8])
  (.seq
  (.reg [⟨some 14, none, .mv (.tmp 8)⟩,
    ⟨some 15, none, .bin .neq (.tmp 14) (.val (.int .i64 0))⟩] [] [1, 2, 3, 8, 15])
  (.cond (.tmp 15)
  (.seq
  (.reg [⟨some 16, none, .mv (.tmp 8)⟩,
    ⟨some 6, none, .mv (.val (.list .nil 1 []))⟩,
    ⟨some 7, none, .mv (.tmp 16)⟩] [] [6, 7])
  (.ret))
  (.skip))))
  (.seq
  (.seq
  (.reg [⟨some 17, none, .mv (.tmp 2)⟩,
    ⟨some 18, none, .bin .lss (.tmp 17) (.val (.int .i64 0))⟩,
    ⟨some 19, none, .mv (.tmp 18)⟩,
    ⟨some 20, (some (19, false)), .mv (.tmp 2)⟩,
    ⟨some 21, (some (19, false)), .faddr 0 (.tmp 3)⟩,
    ⟨some 22, (some (19, false)), .ld none (.tmp 21)⟩,
    ⟨some 23, (some (19, false)), .faddr 1 (.tmp 3)⟩,
    ⟨some 24, (some (19, false)), .ld none (.tmp 23)⟩,
    ⟨some 25, (some (19, false)), .bin .mul (.tmp 22) (.tmp 24)⟩,
    ⟨some 26, (some (19, false)), .bin .geq (.tmp 20) (.tmp 25)⟩,
    ⟨some 27, none, .pick (.tmp 19) (.val (.bool true)) (.tmp 26)⟩] [] [1, 2, 3, 27])
  (.cond (.tmp 27)
  (.seq
  (.reg [⟨some 6, none, .mv (.val (.list .nil 1 []))⟩,
    ⟨some 7, none, .mv (.val (.int .i64 2))⟩] [] [6, 7])
  (.ret))
  (.skip)))
  (.seq
  (.reg [⟨some 9, none, .nacc 26 4⟩] [] [1, 2, 3, 9])
  (.seq
  (.seq
  (.reg [⟨some 10, none, .mv (.val (.int .i64 0))⟩] [] [1, 2, 3, 9, 10])
  (.blk 0 (.loop (.seq
  (.seq
  (.reg [⟨some 28, none, .mv (.tmp 10)⟩,
    ⟨some 29, none, .mv (.tmp 1)⟩,
    ⟨some 30, none, .len (.tmp 29)⟩,
    ⟨some 31, none, .bin .lss (.tmp 28) (.tmp 30)⟩] [] [1, 2, 3, 9, 10, 31])
  (.cond (.tmp 31)
  (.skip)
  (.ext 0)))
  (.seq
  (.blk 1 (.seq
  (.reg [⟨some 34, none, .ld (some 3) (.tmp 3)⟩,
    ⟨some 35, none, .mv (.tmp 1)⟩,
    ⟨some 36, none, .mv (.tmp 10)⟩,
    ⟨some 37, none, .iaS 4 (.tmp 35) (.tmp 36)⟩,
    ⟨some 38, none, .ld (some 4) (.tmp 37)⟩,
    ⟨some 39, none, .call 37 .pure [(.tmp 34), (.tmp 38)]⟩,
    ⟨some 40, none, .mv (.tmp 2)⟩,
    ⟨some 41, none, .call 41 .pure [(.tmp 39), (.tmp 40)]⟩] [] [1, 2, 3, 9, 10, 41])
  (.cond (.tmp 41)
  (.reg [⟨some 42, none, .mv (.tmp 9)⟩,
    ⟨some 43, none, .mv (.tmp 1)⟩,
    ⟨some 44, none, .mv (.tmp 10)⟩,
    ⟨some 45, none, .iaS 4 (.tmp 43) (.tmp 44)⟩,
    ⟨some 46, none, .ld (some 4) (.tmp 45)⟩,
    ⟨some 47, none, .bsl 1 4 [(.int .i64 0), (.int .i64 0), (.int .i64 0), (.int .i64 0)] [(0, 4, (.tmp 46))]⟩,
    ⟨some 48, none, .app 26 4 32 (.tmp 42) (.tmp 47)⟩,
    ⟨some 9, none, .mv (.tmp 48)⟩] [] [1, 2, 3, 9, 10])
  (.skip))))
  (.reg [⟨some 32, none, .mv (.tmp 10)⟩,
    ⟨some 33, none, .bin .add (.tmp 32) (.val (.int .i64 1))⟩,
    ⟨some 10, none, .mv (.tmp 33)⟩] [] [1, 2, 3, 9, 10]))))))
  (.seq
  (.reg [⟨some 49, none, .mv (.tmp 9)⟩,
    ⟨some 6, none, .mv (.tmp 49)⟩,
    ⟨some 7, none, .mv (.val (.int .i64 0))⟩] [] [6, 7])
  (.ret))))))⟩
theorem pf20_ok : fnOk Try.prog 20 pf20 = true := by kernel_rfl

/-- hinterland/span.crosses -/
def pf43 : PFn := ⟨15, 3, [.cell 6 none], .seq
  (.reg [⟨some 3, none, .boxp 24 (.tmp 0)⟩,
    ⟨some 4, none, .boxp 26 (.tmp 1)⟩,
    ⟨some 5, none, .boxp 3 (.tmp 2)⟩,
    ⟨some 6, none, .zer 4 (.bool false)⟩] [] [3, 4, 5, 6])
  (.seq
  (.seq
  (.reg [⟨some 8, none, .ld (some 3) (.tmp 3)⟩,
    ⟨some 9, none, .ld (some 4) (.tmp 4)⟩,
    ⟨some 10, none, .call 48 .opn [(.tmp 8), (.tmp 9)]⟩] [] [5, 6, 10])
  (.blk 0 (.rng (.tmp 10) 11
  (.reg [⟨some 7, none, .mv (.tmp 11)⟩] [] [5, 6, 7])
  (.blk 1 (.seq
  (.reg [⟨some 12, none, .mv (.tmp 7)⟩,
    ⟨some 13, none, .ld none (.tmp 5)⟩,
    ⟨some 14, none, .bin .eql (.tmp 12) (.tmp 13)⟩] [] [6, 14])
  (.cond (.tmp 14)
  (.seq
  (.reg [⟨none, none, .st 1 (.tmp 6) (.val (.bool true))⟩] [] [])
  (.ret))
  (.skip)))))))
  (.seq
  (.reg [⟨none, none, .st 1 (.tmp 6) (.val (.bool false))⟩] [] [6])
  (.ret)))⟩
theorem pf43_ok : fnOk Try.prog 43 pf43 = true := by kernel_rfl

/-- hinterland/span.Over -/
def pf21 : PFn := ⟨38, 3, [.tmp 6, .tmp 7], .seq
  (.reg [⟨some 3, none, .boxp 24 (.tmp 0)⟩,
    ⟨some 6, none, .mv (.val (.list .nil 1 []))⟩,
    ⟨some 7, none, .mv (.val (.int .i64 0))⟩] [] [1, 2, 3])
  (.seq
  (.seq
  (.reg [⟨some 12, none, .ld (some 3) (.tmp 3)⟩,
    ⟨some 13, none, .mv (.tmp 1)⟩,
    ⟨some 14, none, .call 38 .pure [(.tmp 12), (.tmp 13)]⟩,
    ⟨some 8, none, .mv (.tmp 14)⟩] [] [1, 2, 3, 8])
  (.seq
  (.reg [⟨some 15, none, .mv (.tmp 8)⟩,
    ⟨some 16, none, .bin .neq (.tmp 15) (.val (.int .i64 0))⟩] [] [1, 2, 3, 8, 16])
  (.cond (.tmp 16)
  (.seq
  (.reg [⟨some 17, none, .mv (.tmp 8)⟩,
    ⟨some 6, none, .mv (.val (.list .nil 1 []))⟩,
    ⟨some 7, none, .mv (.tmp 17)⟩] [] [6, 7])
  (.ret))
  (.skip))))
  (.seq
  (.seq
  (.reg [⟨some 18, none, .ld (some 3) (.tmp 3)⟩,
    ⟨some 19, none, .mv (.tmp 2)⟩,
    ⟨some 20, none, .call 42 .pure [(.tmp 18), (.tmp 19)]⟩,
    ⟨some 21, none, .un .not (.tmp 20)⟩] [] [1, 2, 3, 21])
  (.cond (.tmp 21)
  (.seq
  (.reg [⟨some 6, none, .mv (.val (.list .nil 1 []))⟩,
    ⟨some 7, none, .mv (.val (.int .i64 2))⟩] [] [6, 7])
  (.ret))
  (.skip)))
  (.seq
  (.reg [⟨some 9, none, .nacc 26 4⟩] [] [1, 2, 3, 9])
  (.seq
  (.seq
  (.reg [⟨some 22, none, .mv (.tmp 1)⟩,
    ⟨some 23, none, .len (.tmp 22)⟩,
    ⟨some 24, none, .mv (.val (.int .i64 0))⟩] [] [2, 3, 9, 22, 23, 24])
  (.blk 0 (.loop (.trim (.seq
  (.reg [⟨some 25, none, .bin .lss (.tmp 24) (.tmp 23)⟩] [] [2, 3, 9, 22, 23, 24, 25])
  (.seq
  (.cond (.tmp 25)
  (.skip)
  (.ext 0))
  (.seq
  (.blk 1 (.seq
  (.reg [⟨some 26, none, .iaS 4 (.tmp 22) (.tmp 24)⟩,
    ⟨some 27, none, .ld (some 4) (.tmp 26)⟩,
    ⟨some 11, none, .zer 26 (.agg [(.int .i64 0), (.int .i64 0), (.int .i64 0), (.int .i64 0)])⟩,
    ⟨none, none, .st 4 (.tmp 11) (.tmp 27)⟩] [] [2, 3, 9, 11, 22, 23, 24])
  (.seq
  (.reg [⟨some 28, none, .ld (some 3) (.tmp 3)⟩,
    ⟨some 29, none, .ld (some 4) (.tmp 11)⟩,
    ⟨some 30, none, .mv (.tmp 2)⟩,
    ⟨some 31, none, .call 43 .pure [(.tmp 28), (.tmp 29), (.tmp 30)]⟩] [] [2, 3, 9, 11, 22, 23, 24, 31])
  (.cond (.tmp 31)
  (.reg [⟨some 32, none, .mv (.tmp 9)⟩,
    ⟨some 33, none, .ld (some 4) (.tmp 11)⟩,
    ⟨some 34, none, .bsl 1 4 [(.int .i64 0), (.int .i64 0), (.int .i64 0), (.int .i64 0)] [(0, 4, (.tmp 33))]⟩,
    ⟨some 35, none, .app 26 4 32 (.tmp 32) (.tmp 34)⟩,
    ⟨some 9, none, .mv (.tmp 35)⟩] [] [2, 3, 9, 22, 23, 24])
  (.skip)))))
  (.reg [⟨some 36, none, .bin .add (.tmp 24) (.val (.int .i64 1))⟩,
    ⟨some 24, none, .mv (.tmp 36)⟩] [] [2, 3, 9, 22, 23, 24]))))))))
  (.seq
  (.reg [⟨some 37, none, .mv (.tmp 9)⟩,
    ⟨some 6, none, .mv (.tmp 37)⟩,
    ⟨some 7, none, .mv (.val (.int .i64 0))⟩] [] [6, 7])
  (.ret))))))⟩
theorem pf21_ok : fnOk Try.prog 21 pf21 = true := by kernel_rfl

/-- hinterland/hinterlandsame.List[hinterland/api.Span] -/
def pf22 : PFn := ⟨26, 2, [.tmp 4], .seq
  (.reg [⟨some 4, none, .mv (.val (.bool false))⟩] [] [0, 1])
  (.seq
  (.seq
  (.reg [⟨some 6, none, .mv (.tmp 0)⟩,
    ⟨some 7, none, .len (.tmp 6)⟩,
    ⟨some 8, none, .mv (.tmp 1)⟩,
    ⟨some 9, none, .len (.tmp 8)⟩,
    ⟨some 10, none, .bin .neq (.tmp 7) (.tmp 9)⟩] [] [0, 1, 10])
  (.cond (.tmp 10)
  (.seq
  (.reg [⟨some 4, none, .mv (.val (.bool false))⟩] [] [4])
  (.ret))
  (.skip)))
  (.seq
  (.seq
  (.reg [⟨some 5, none, .mv (.val (.int .i64 0))⟩] [] [0, 1, 5])
  (.blk 0 (.loop (.seq
  (.seq
  (.reg [⟨some 11, none, .mv (.tmp 5)⟩,
    ⟨some 12, none, .mv (.tmp 0)⟩,
    ⟨some 13, none, .len (.tmp 12)⟩,
    ⟨some 14, none, .bin .lss (.tmp 11) (.tmp 13)⟩] [] [0, 1, 5, 14])
  (.cond (.tmp 14)
  (.skip)
  (.ext 0)))
  (.seq
  (.blk 1 (.seq
  (.reg [⟨some 17, none, .mv (.tmp 0)⟩,
    ⟨some 18, none, .mv (.tmp 5)⟩,
    ⟨some 19, none, .iaS 4 (.tmp 17) (.tmp 18)⟩,
    ⟨some 20, none, .ld (some 4) (.tmp 19)⟩,
    ⟨some 21, none, .mv (.tmp 1)⟩,
    ⟨some 22, none, .mv (.tmp 5)⟩,
    ⟨some 23, none, .iaS 4 (.tmp 21) (.tmp 22)⟩,
    ⟨some 24, none, .ld (some 4) (.tmp 23)⟩,
    ⟨some 25, none, .eqs true [true, true, true, true] (.tmp 20) (.tmp 24)⟩] [] [0, 1, 5, 25])
  (.cond (.tmp 25)
  (.seq
  (.reg [⟨some 4, none, .mv (.val (.bool false))⟩] [] [4])
  (.ret))
  (.skip))))
  (.reg [⟨some 15, none, .mv (.tmp 5)⟩,
    ⟨some 16, none, .bin .add (.tmp 15) (.val (.int .i64 1))⟩,
    ⟨some 5, none, .mv (.tmp 16)⟩] [] [0, 1, 5]))))))
  (.seq
  (.reg [⟨some 4, none, .mv (.val (.bool true))⟩] [] [4])
  (.ret))))⟩
theorem pf22_ok : fnOk Try.prog 22 pf22 = true := by kernel_rfl

/-- hinterland/hinterlandlaw05.SpanOvers -/
def pf6 : PFn := ⟨40, 3, [.tmp 6], .seq
  (.reg [⟨some 3, none, .boxp 24 (.tmp 0)⟩,
    ⟨some 6, none, .mv (.val (.bool false))⟩] [] [1, 2, 3])
  (.seq
  (.seq
  (.reg [⟨some 11, none, .ld (some 3) (.tmp 3)⟩,
    ⟨some 12, none, .mv (.tmp 1)⟩,
    ⟨some 13, none, .call 12 .pure [(.tmp 11), (.tmp 12)]⟩] [] [1, 2, 3, 13])
  (.cond (.tmp 13)
  (.seq
  (.reg [⟨some 14, none, .call 13 .pure []⟩,
    ⟨some 6, none, .mv (.tmp 14)⟩] [] [6])
  (.ret))
  (.skip)))
  (.seq
  (.reg [⟨some 16, none, .ld (some 3) (.tmp 3)⟩,
    ⟨some 17, none, .mv (.tmp 1)⟩,
    ⟨some 18, none, .mv (.tmp 2)⟩,
    ⟨some 19, none, .call 20 .pure [(.tmp 16), (.tmp 17), (.tmp 18)]⟩,
    ⟨some 15, none, .mv (.tmp 19)⟩,
    ⟨some 20, none, .ext 0 (.tmp 15)⟩,
    ⟨some 21, none, .ext 1 (.tmp 15)⟩,
    ⟨some 7, none, .mv (.tmp 20)⟩,
    ⟨some 8, none, .mv (.tmp 21)⟩] [] [1, 2, 3, 7, 8])
  (.seq
  (.reg [⟨some 23, none, .ld (some 3) (.tmp 3)⟩,
    ⟨some 24, none, .mv (.tmp 1)⟩,
    ⟨some 25, none, .mv (.tmp 2)⟩,
    ⟨some 26, none, .call 21 .pure [(.tmp 23), (.tmp 24), (.tmp 25)]⟩,
    ⟨some 22, none, .mv (.tmp 26)⟩,
    ⟨some 27, none, .ext 0 (.tmp 22)⟩,
    ⟨some 28, none, .ext 1 (.tmp 22)⟩,
    ⟨some 9, none, .mv (.tmp 27)⟩,
    ⟨some 10, none, .mv (.tmp 28)⟩] [] [7, 8, 9, 10])
  (.seq
  (.reg [⟨some 29, none, .mv (.tmp 10)⟩,
    ⟨some 30, none, .mv (.tmp 8)⟩,
    ⟨some 31, none, .bin .eql (.tmp 29) (.tmp 30)⟩,
    ⟨some 32, none, .mv (.tmp 31)⟩,
    ⟨some 33, (some (32, true)), .mv (.tmp 9)⟩,
    ⟨some 34, (some (32, true)), .mv (.tmp 7)⟩,
    ⟨some 35, (some (32, true)), .call 22 .pure [(.tmp 33), (.tmp 34)]⟩,
    ⟨some 36, none, .pick (.tmp 32) (.tmp 35) (.val (.bool false))⟩,
    ⟨some 37, none, .mv (.tmp 36)⟩,
    ⟨some 38, (some (37, true)), .call 13 .pure []⟩,
    ⟨some 39, none, .pick (.tmp 37) (.tmp 38) (.val (.bool false))⟩,
    ⟨some 6, none, .mv (.tmp 39)⟩] [] [6])
  (.ret)))))⟩
theorem pf6_ok : fnOk Try.prog 6 pf6 = true := by kernel_rfl

/-- hinterland/span.between_1 -/
def pf64 : PFn := ⟨28, 3, [], .seq
  (.reg [⟨some 8, none, .ld (some 3) (.tmp 1)⟩,
    ⟨some 9, none, .ld (some 4) (.tmp 2)⟩,
    ⟨some 10, none, .call 39 .pure [(.tmp 8), (.tmp 9)]⟩,
    ⟨some 7, none, .mv (.tmp 10)⟩,
    ⟨some 11, none, .ext 0 (.tmp 7)⟩,
    ⟨some 12, none, .ext 1 (.tmp 7)⟩,
    ⟨some 4, none, .mv (.tmp 11)⟩,
    ⟨some 5, none, .mv (.tmp 12)⟩] [] [0, 2, 4])
  (.seq
  (.reg [⟨some 13, none, .faddr 1 (.tmp 2)⟩,
    ⟨some 14, none, .ld none (.tmp 13)⟩,
    ⟨some 15, none, .mv (.tmp 4)⟩,
    ⟨some 16, none, .bin .add (.tmp 14) (.tmp 15)⟩,
    ⟨some 6, none, .mv (.tmp 16)⟩] [] [0, 2, 4, 6])
  (.blk 0 (.loop (.seq
  (.seq
  (.reg [⟨some 17, none, .mv (.tmp 6)⟩,
    ⟨some 18, none, .faddr 2 (.tmp 2)⟩,
    ⟨some 19, none, .ld none (.tmp 18)⟩,
    ⟨some 20, none, .bin .lss (.tmp 17) (.tmp 19)⟩] [] [0, 2, 4, 6, 20])
  (.cond (.tmp 20)
  (.skip)
  (.ext 0)))
  (.seq
  (.blk 1 (.seq
  (.reg [⟨some 24, none, .mv (.tmp 0)⟩,
    ⟨some 25, none, .mv (.tmp 6)⟩,
    ⟨some 26, none, .callv (.tmp 24) .pure [(.tmp 25)]⟩,
    ⟨some 27, none, .un .not (.tmp 26)⟩] [] [0, 2, 4, 6, 27])
  (.cond (.tmp 27)
  (.ret)
  (.skip))))
  (.reg [⟨some 21, none, .mv (.tmp 6)⟩,
    ⟨some 22, none, .mv (.tmp 4)⟩,
    ⟨some 23, none, .bin .add (.tmp 21) (.tmp 22)⟩,
    ⟨some 6, none, .mv (.tmp 23)⟩] [] [0, 2, 4, 6]))))))⟩
theorem pf64_ok : fnOk Try.prog 64 pf64 = true := by kernel_rfl

end Go.Proofs.Ytpnhdcjfhlcgoaa
