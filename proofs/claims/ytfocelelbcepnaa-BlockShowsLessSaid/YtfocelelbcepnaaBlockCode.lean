/- PCode of functions, written by wip/tools/gen.py out of the loaded functions' print. -/
import Derived.Test.YtfocelelbcepnaaPmTwentyOne
import Derived.Test.YtfocelelbcepnaaProg
import Derived.KernelRfl
set_option maxRecDepth 100000
namespace Go.Proofs.Ytfocelelbcepnaa
open Go.Proofs.Ytfocelelbcepnaa.PM

/-- hinterland/hinterlandlaw07.BlockValidates -/
def pf3 : PFn := ⟨23, 2, [.tmp 4], .seq
  (.reg [⟨some 2, none, .boxp 25 (.tmp 0)⟩,
    ⟨some 4, none, .mv (.val (.bool false))⟩] [] [1, 2])
  (.seq
  (.reg [⟨some 5, none, .ld (some 4) (.tmp 2)⟩,
    ⟨some 6, none, .mv (.tmp 1)⟩,
    ⟨some 7, none, .call 16 .pure [(.tmp 5), (.tmp 6)]⟩,
    ⟨some 8, none, .mv (.tmp 7)⟩,
    ⟨some 9, (some (8, true)), .call 17 .pure []⟩,
    ⟨some 10, none, .pick (.tmp 8) (.tmp 9) (.val (.bool false))⟩,
    ⟨some 11, none, .mv (.tmp 10)⟩,
    ⟨some 12, (some (11, false)), .ld (some 4) (.tmp 2)⟩,
    ⟨some 13, (some (11, false)), .mv (.tmp 1)⟩,
    ⟨some 14, (some (11, false)), .call 18 .pure [(.tmp 12), (.tmp 13)]⟩,
    ⟨some 15, (some (11, false)), .ld (some 4) (.tmp 2)⟩,
    ⟨some 16, (some (11, false)), .mv (.tmp 1)⟩,
    ⟨some 17, (some (11, false)), .call 19 .pure [(.tmp 15), (.tmp 16)]⟩,
    ⟨some 18, (some (11, false)), .bin .eql (.tmp 14) (.tmp 17)⟩,
    ⟨some 19, (some (11, false)), .mv (.tmp 18)⟩,
    ⟨some 20, (some (19, true)), .call 17 .pure []⟩,
    ⟨some 21, (some (11, false)), .pick (.tmp 19) (.tmp 20) (.val (.bool false))⟩,
    ⟨some 22, none, .pick (.tmp 11) (.val (.bool true)) (.tmp 21)⟩,
    ⟨some 4, none, .mv (.tmp 22)⟩] [] [4])
  (.ret))⟩
theorem pf3_ok : fnOk Try.prog 3 pf3 = true := by kernel_rfl

/-- hinterland/hinterlandlaw07.BlockParts -/
def pf4 : PFn := ⟨36, 2, [.tmp 4], .seq
  (.reg [⟨some 2, none, .boxp 25 (.tmp 0)⟩,
    ⟨some 4, none, .mv (.val (.bool false))⟩] [] [1, 2])
  (.seq
  (.seq
  (.reg [⟨some 9, none, .ld (some 4) (.tmp 2)⟩,
    ⟨some 10, none, .mv (.tmp 1)⟩,
    ⟨some 11, none, .call 16 .pure [(.tmp 9), (.tmp 10)]⟩] [] [1, 2, 11])
  (.cond (.tmp 11)
  (.seq
  (.reg [⟨some 12, none, .call 17 .pure []⟩,
    ⟨some 4, none, .mv (.tmp 12)⟩] [] [4])
  (.ret))
  (.skip)))
  (.seq
  (.reg [⟨some 14, none, .ld (some 4) (.tmp 2)⟩,
    ⟨some 15, none, .mv (.tmp 1)⟩,
    ⟨some 16, none, .call 20 .pure [(.tmp 14), (.tmp 15)]⟩,
    ⟨some 13, none, .mv (.tmp 16)⟩,
    ⟨some 17, none, .ext 0 (.tmp 13)⟩,
    ⟨some 18, none, .ext 1 (.tmp 13)⟩,
    ⟨some 5, none, .mv (.tmp 17)⟩,
    ⟨some 6, none, .mv (.tmp 18)⟩] [] [1, 2, 5, 6])
  (.seq
  (.reg [⟨some 20, none, .ld (some 4) (.tmp 2)⟩,
    ⟨some 21, none, .mv (.tmp 1)⟩,
    ⟨some 22, none, .call 21 .pure [(.tmp 20), (.tmp 21)]⟩,
    ⟨some 19, none, .mv (.tmp 22)⟩,
    ⟨some 23, none, .ext 0 (.tmp 19)⟩,
    ⟨some 24, none, .ext 1 (.tmp 19)⟩,
    ⟨some 7, none, .mv (.tmp 23)⟩,
    ⟨some 8, none, .mv (.tmp 24)⟩] [] [5, 6, 7, 8])
  (.seq
  (.reg [⟨some 25, none, .mv (.tmp 8)⟩,
    ⟨some 26, none, .mv (.tmp 6)⟩,
    ⟨some 27, none, .bin .eql (.tmp 25) (.tmp 26)⟩,
    ⟨some 28, none, .mv (.tmp 27)⟩,
    ⟨some 29, (some (28, true)), .mv (.tmp 7)⟩,
    ⟨some 30, (some (28, true)), .mv (.tmp 5)⟩,
    ⟨some 31, (some (28, true)), .call 22 .pure [(.tmp 29), (.tmp 30)]⟩,
    ⟨some 32, none, .pick (.tmp 28) (.tmp 31) (.val (.bool false))⟩,
    ⟨some 33, none, .mv (.tmp 32)⟩,
    ⟨some 34, (some (33, true)), .call 17 .pure []⟩,
    ⟨some 35, none, .pick (.tmp 33) (.tmp 34) (.val (.bool false))⟩,
    ⟨some 4, none, .mv (.tmp 35)⟩] [] [4])
  (.ret)))))⟩
theorem pf4_ok : fnOk Try.prog 4 pf4 = true := by kernel_rfl

/-- hinterland/hinterlandlaw07.BlockOf -/
def pf5 : PFn := ⟨44, 4, [.tmp 8], .seq
  (.reg [⟨some 4, none, .boxp 25 (.tmp 0)⟩,
    ⟨some 8, none, .mv (.val (.bool false))⟩] [] [1, 2, 3, 4])
  (.seq
  (.seq
  (.reg [⟨some 13, none, .ld (some 4) (.tmp 4)⟩,
    ⟨some 14, none, .mv (.tmp 1)⟩,
    ⟨some 15, none, .call 16 .pure [(.tmp 13), (.tmp 14)]⟩] [] [1, 2, 3, 4, 15])
  (.cond (.tmp 15)
  (.seq
  (.reg [⟨some 16, none, .call 17 .pure []⟩,
    ⟨some 8, none, .mv (.tmp 16)⟩] [] [8])
  (.ret))
  (.skip)))
  (.seq
  (.reg [⟨some 18, none, .ld (some 4) (.tmp 4)⟩,
    ⟨some 19, none, .mv (.tmp 1)⟩,
    ⟨some 20, none, .mv (.tmp 2)⟩,
    ⟨some 21, none, .mv (.tmp 3)⟩,
    ⟨some 22, none, .call 23 .pure [(.tmp 18), (.tmp 19), (.tmp 20), (.tmp 21)]⟩,
    ⟨some 17, none, .mv (.tmp 22)⟩,
    ⟨some 23, none, .ext 0 (.tmp 17)⟩,
    ⟨some 24, none, .ext 1 (.tmp 17)⟩,
    ⟨some 9, none, .mv (.tmp 23)⟩,
    ⟨some 10, none, .mv (.tmp 24)⟩] [] [1, 2, 3, 4, 9, 10])
  (.seq
  (.reg [⟨some 26, none, .ld (some 4) (.tmp 4)⟩,
    ⟨some 27, none, .mv (.tmp 1)⟩,
    ⟨some 28, none, .mv (.tmp 2)⟩,
    ⟨some 29, none, .mv (.tmp 3)⟩,
    ⟨some 30, none, .call 24 .pure [(.tmp 26), (.tmp 27), (.tmp 28), (.tmp 29)]⟩,
    ⟨some 25, none, .mv (.tmp 30)⟩,
    ⟨some 31, none, .ext 0 (.tmp 25)⟩,
    ⟨some 32, none, .ext 1 (.tmp 25)⟩,
    ⟨some 11, none, .mv (.tmp 31)⟩,
    ⟨some 12, none, .mv (.tmp 32)⟩] [] [9, 10, 11, 12])
  (.seq
  (.reg [⟨some 33, none, .mv (.tmp 12)⟩,
    ⟨some 34, none, .mv (.tmp 10)⟩,
    ⟨some 35, none, .bin .eql (.tmp 33) (.tmp 34)⟩,
    ⟨some 36, none, .mv (.tmp 35)⟩,
    ⟨some 37, (some (36, true)), .mv (.tmp 11)⟩,
    ⟨some 38, (some (36, true)), .mv (.tmp 9)⟩,
    ⟨some 39, (some (36, true)), .bin .eql (.tmp 37) (.tmp 38)⟩,
    ⟨some 40, none, .pick (.tmp 36) (.tmp 39) (.val (.bool false))⟩,
    ⟨some 41, none, .mv (.tmp 40)⟩,
    ⟨some 42, (some (41, true)), .call 17 .pure []⟩,
    ⟨some 43, none, .pick (.tmp 41) (.tmp 42) (.val (.bool false))⟩,
    ⟨some 8, none, .mv (.tmp 43)⟩] [] [8])
  (.ret)))))⟩
theorem pf5_ok : fnOk Try.prog 5 pf5 = true := by kernel_rfl

/-- hinterland/hinterlandlaw07.BlockWhole -/
def pf6 : PFn := ⟨162, 2, [.tmp 4], .seq
  (.reg [⟨some 2, none, .boxp 25 (.tmp 0)⟩,
    ⟨some 4, none, .mv (.val (.bool false))⟩] [] [1, 2])
  (.seq
  (.seq
  (.reg [⟨some 16, none, .ld (some 4) (.tmp 2)⟩,
    ⟨some 17, none, .mv (.tmp 1)⟩,
    ⟨some 18, none, .call 16 .pure [(.tmp 16), (.tmp 17)]⟩,
    ⟨some 19, none, .mv (.tmp 18)⟩,
    ⟨some 20, (some (19, false)), .faddr 2 (.tmp 2)⟩,
    ⟨some 21, (some (19, false)), .ld none (.tmp 20)⟩,
    ⟨some 22, (some (19, false)), .len (.tmp 21)⟩,
    ⟨some 23, (some (19, false)), .bin .gtr (.tmp 22) (.val (.int .i64 150))⟩,
    ⟨some 24, none, .pick (.tmp 19) (.val (.bool true)) (.tmp 23)⟩] [] [1, 2, 24])
  (.cond (.tmp 24)
  (.seq
  (.reg [⟨some 25, none, .call 17 .pure []⟩,
    ⟨some 4, none, .mv (.tmp 25)⟩] [] [4])
  (.ret))
  (.skip)))
  (.seq
  (.reg [⟨some 27, none, .ld (some 4) (.tmp 2)⟩,
    ⟨some 28, none, .mv (.tmp 1)⟩,
    ⟨some 29, none, .call 21 .pure [(.tmp 27), (.tmp 28)]⟩,
    ⟨some 26, none, .mv (.tmp 29)⟩,
    ⟨some 30, none, .ext 0 (.tmp 26)⟩,
    ⟨some 31, none, .ext 1 (.tmp 26)⟩,
    ⟨some 5, none, .mv (.tmp 30)⟩,
    ⟨some 6, none, .mv (.tmp 31)⟩] [] [1, 2, 5, 6])
  (.seq
  (.seq
  (.reg [⟨some 32, none, .mv (.tmp 6)⟩,
    ⟨some 33, none, .bin .neq (.tmp 32) (.val (.int .i64 0))⟩] [] [1, 2, 5, 33])
  (.cond (.tmp 33)
  (.seq
  (.reg [⟨some 34, none, .call 17 .pure []⟩,
    ⟨some 4, none, .mv (.tmp 34)⟩] [] [4])
  (.ret))
  (.skip)))
  (.seq
  (.reg [⟨some 7, none, .mv (.val (.int .i64 0))⟩] [] [1, 2, 5, 7])
  (.seq
  (.seq
  (.reg [⟨some 8, none, .mv (.val (.int .i64 0))⟩] [] [1, 2, 5, 7, 8])
  (.blk 0 (.loop (.seq
  (.seq
  (.reg [⟨some 35, none, .mv (.tmp 8)⟩,
    ⟨some 36, none, .mv (.tmp 5)⟩,
    ⟨some 37, none, .len (.tmp 36)⟩,
    ⟨some 38, none, .bin .lss (.tmp 35) (.tmp 37)⟩] [] [1, 2, 5, 7, 8, 38])
  (.cond (.tmp 38)
  (.skip)
  (.ext 0)))
  (.seq
  (.blk 1 (.seq
  (.seq
  (.reg [⟨some 41, none, .mv (.tmp 5)⟩,
    ⟨some 42, none, .mv (.tmp 8)⟩,
    ⟨some 43, none, .iaS 2 (.tmp 41) (.tmp 42)⟩,
    ⟨some 44, none, .faddr 1 (.tmp 43)⟩,
    ⟨some 45, none, .ld none (.tmp 44)⟩,
    ⟨some 46, none, .len (.tmp 45)⟩,
    ⟨some 47, none, .bin .eql (.tmp 46) (.val (.int .i64 0))⟩,
    ⟨some 48, none, .mv (.tmp 47)⟩,
    ⟨some 49, (some (48, false)), .mv (.tmp 5)⟩,
    ⟨some 50, (some (48, false)), .mv (.tmp 8)⟩,
    ⟨some 51, (some (48, false)), .iaS 2 (.tmp 49) (.tmp 50)⟩,
    ⟨some 52, (some (48, false)), .faddr 1 (.tmp 51)⟩,
    ⟨some 53, (some (48, false)), .ld none (.tmp 52)⟩,
    ⟨some 54, (some (48, false)), .iaS 1 (.tmp 53) (.val (.int .i64 0))⟩,
    ⟨some 55, (some (48, false)), .ld none (.tmp 54)⟩,
    ⟨some 56, (some (48, false)), .mv (.tmp 5)⟩,
    ⟨some 57, (some (48, false)), .mv (.tmp 8)⟩,
    ⟨some 58, (some (48, false)), .iaS 2 (.tmp 56) (.tmp 57)⟩,
    ⟨some 59, (some (48, false)), .faddr 0 (.tmp 58)⟩,
    ⟨some 60, (some (48, false)), .ld none (.tmp 59)⟩,
    ⟨some 61, (some (48, false)), .bin .neq (.tmp 55) (.tmp 60)⟩,
    ⟨some 62, none, .pick (.tmp 48) (.val (.bool true)) (.tmp 61)⟩,
    ⟨some 63, none, .mv (.tmp 62)⟩,
    ⟨some 64, (some (63, false)), .mv (.tmp 8)⟩,
    ⟨some 65, (some (63, false)), .bin .gtr (.tmp 64) (.val (.int .i64 0))⟩,
    ⟨some 66, (some (63, false)), .mv (.tmp 65)⟩,
    ⟨some 67, (some (66, true)), .mv (.tmp 5)⟩,
    ⟨some 68, (some (66, true)), .mv (.tmp 8)⟩,
    ⟨some 69, (some (66, true)), .bin .sub (.tmp 68) (.val (.int .i64 1))⟩,
    ⟨some 70, (some (66, true)), .iaS 2 (.tmp 67) (.tmp 69)⟩,
    ⟨some 71, (some (66, true)), .faddr 0 (.tmp 70)⟩,
    ⟨some 72, (some (66, true)), .ld none (.tmp 71)⟩,
    ⟨some 73, (some (66, true)), .mv (.tmp 5)⟩,
    ⟨some 74, (some (66, true)), .mv (.tmp 8)⟩,
    ⟨some 75, (some (66, true)), .iaS 2 (.tmp 73) (.tmp 74)⟩,
    ⟨some 76, (some (66, true)), .faddr 0 (.tmp 75)⟩,
    ⟨some 77, (some (66, true)), .ld none (.tmp 76)⟩,
    ⟨some 78, (some (66, true)), .bin .geq (.tmp 72) (.tmp 77)⟩,
    ⟨some 79, (some (63, false)), .pick (.tmp 66) (.tmp 78) (.val (.bool false))⟩,
    ⟨some 80, none, .pick (.tmp 63) (.val (.bool true)) (.tmp 79)⟩] [] [1, 2, 5, 7, 8, 80])
  (.cond (.tmp 80)
  (.seq
  (.reg [⟨some 4, none, .mv (.val (.bool false))⟩] [] [4])
  (.ret))
  (.skip)))
  (.seq
  (.reg [⟨some 9, none, .mv (.val (.int .i64 0))⟩] [] [1, 2, 5, 7, 8, 9])
  (.blk 2 (.loop (.seq
  (.seq
  (.reg [⟨some 81, none, .mv (.tmp 9)⟩,
    ⟨some 82, none, .mv (.tmp 5)⟩,
    ⟨some 83, none, .mv (.tmp 8)⟩,
    ⟨some 84, none, .iaS 2 (.tmp 82) (.tmp 83)⟩,
    ⟨some 85, none, .faddr 1 (.tmp 84)⟩,
    ⟨some 86, none, .ld none (.tmp 85)⟩,
    ⟨some 87, none, .len (.tmp 86)⟩,
    ⟨some 88, none, .bin .lss (.tmp 81) (.tmp 87)⟩] [] [1, 2, 5, 7, 8, 9, 88])
  (.cond (.tmp 88)
  (.skip)
  (.ext 2)))
  (.seq
  (.blk 3 (.seq
  (.reg [⟨some 91, none, .mv (.tmp 5)⟩,
    ⟨some 92, none, .mv (.tmp 8)⟩,
    ⟨some 93, none, .iaS 2 (.tmp 91) (.tmp 92)⟩,
    ⟨some 94, none, .faddr 1 (.tmp 93)⟩,
    ⟨some 95, none, .ld none (.tmp 94)⟩,
    ⟨some 96, none, .mv (.tmp 9)⟩,
    ⟨some 97, none, .iaS 1 (.tmp 95) (.tmp 96)⟩,
    ⟨some 98, none, .ld none (.tmp 97)⟩,
    ⟨some 10, none, .mv (.tmp 98)⟩] [] [1, 2, 5, 7, 8, 9, 10])
  (.seq
  (.reg [⟨some 100, none, .ld (some 4) (.tmp 2)⟩,
    ⟨some 101, none, .mv (.tmp 1)⟩,
    ⟨some 102, none, .mv (.tmp 10)⟩,
    ⟨some 103, none, .bin .quo (.tmp 102) (.val (.int .i64 8))⟩,
    ⟨some 104, none, .mv (.tmp 10)⟩,
    ⟨some 105, none, .bin .rem (.tmp 104) (.val (.int .i64 8))⟩,
    ⟨some 106, none, .call 24 .pure [(.tmp 100), (.tmp 101), (.tmp 103), (.tmp 105)]⟩,
    ⟨some 99, none, .mv (.tmp 106)⟩,
    ⟨some 107, none, .ext 0 (.tmp 99)⟩,
    ⟨some 108, none, .ext 1 (.tmp 99)⟩,
    ⟨some 11, none, .mv (.tmp 107)⟩,
    ⟨some 12, none, .mv (.tmp 108)⟩] [] [1, 2, 5, 7, 8, 9, 10, 11, 12])
  (.seq
  (.seq
  (.reg [⟨some 109, none, .mv (.tmp 12)⟩,
    ⟨some 110, none, .bin .neq (.tmp 109) (.val (.int .i64 0))⟩,
    ⟨some 111, none, .mv (.tmp 110)⟩,
    ⟨some 112, (some (111, false)), .mv (.tmp 11)⟩,
    ⟨some 113, (some (111, false)), .mv (.tmp 5)⟩,
    ⟨some 114, (some (111, false)), .mv (.tmp 8)⟩,
    ⟨some 115, (some (111, false)), .iaS 2 (.tmp 113) (.tmp 114)⟩,
    ⟨some 116, (some (111, false)), .faddr 0 (.tmp 115)⟩,
    ⟨some 117, (some (111, false)), .ld none (.tmp 116)⟩,
    ⟨some 118, (some (111, false)), .bin .neq (.tmp 112) (.tmp 117)⟩,
    ⟨some 119, none, .pick (.tmp 111) (.val (.bool true)) (.tmp 118)⟩,
    ⟨some 120, none, .mv (.tmp 119)⟩,
    ⟨some 121, (some (120, false)), .mv (.tmp 9)⟩,
    ⟨some 122, (some (120, false)), .bin .gtr (.tmp 121) (.val (.int .i64 0))⟩,
    ⟨some 123, (some (120, false)), .mv (.tmp 122)⟩,
    ⟨some 124, (some (123, true)), .mv (.tmp 5)⟩,
    ⟨some 125, (some (123, true)), .mv (.tmp 8)⟩,
    ⟨some 126, (some (123, true)), .iaS 2 (.tmp 124) (.tmp 125)⟩,
    ⟨some 127, (some (123, true)), .faddr 1 (.tmp 126)⟩,
    ⟨some 128, (some (123, true)), .ld none (.tmp 127)⟩,
    ⟨some 129, (some (123, true)), .mv (.tmp 9)⟩,
    ⟨some 130, (some (123, true)), .bin .sub (.tmp 129) (.val (.int .i64 1))⟩,
    ⟨some 131, (some (123, true)), .iaS 1 (.tmp 128) (.tmp 130)⟩,
    ⟨some 132, (some (123, true)), .ld none (.tmp 131)⟩,
    ⟨some 133, (some (123, true)), .mv (.tmp 10)⟩,
    ⟨some 134, (some (123, true)), .bin .geq (.tmp 132) (.tmp 133)⟩,
    ⟨some 135, (some (120, false)), .pick (.tmp 123) (.tmp 134) (.val (.bool false))⟩,
    ⟨some 136, none, .pick (.tmp 120) (.val (.bool true)) (.tmp 135)⟩] [] [1, 2, 5, 7, 8, 9, 136])
  (.cond (.tmp 136)
  (.seq
  (.reg [⟨some 4, none, .mv (.val (.bool false))⟩] [] [4])
  (.ret))
  (.skip)))
  (.reg [⟨some 137, none, .mv (.tmp 7)⟩,
    ⟨some 138, none, .bin .add (.tmp 137) (.val (.int .i64 1))⟩,
    ⟨some 7, none, .mv (.tmp 138)⟩] [] [1, 2, 5, 7, 8, 9])))))
  (.reg [⟨some 89, none, .mv (.tmp 9)⟩,
    ⟨some 90, none, .bin .add (.tmp 89) (.val (.int .i64 1))⟩,
    ⟨some 9, none, .mv (.tmp 90)⟩] [] [1, 2, 5, 7, 8, 9]))))))))
  (.reg [⟨some 39, none, .mv (.tmp 8)⟩,
    ⟨some 40, none, .bin .add (.tmp 39) (.val (.int .i64 1))⟩,
    ⟨some 8, none, .mv (.tmp 40)⟩] [] [1, 2, 5, 7, 8]))))))
  (.seq
  (.reg [⟨some 13, none, .mv (.val (.int .i64 0))⟩] [] [2, 7, 13])
  (.seq
  (.seq
  (.reg [⟨some 14, none, .mv (.val (.int .i64 0))⟩] [] [2, 7, 13, 14])
  (.blk 4 (.loop (.seq
  (.seq
  (.reg [⟨some 139, none, .mv (.tmp 14)⟩,
    ⟨some 140, none, .faddr 2 (.tmp 2)⟩,
    ⟨some 141, none, .ld none (.tmp 140)⟩,
    ⟨some 142, none, .len (.tmp 141)⟩,
    ⟨some 143, none, .bin .lss (.tmp 139) (.tmp 142)⟩] [] [2, 7, 13, 14, 143])
  (.cond (.tmp 143)
  (.skip)
  (.ext 4)))
  (.seq
  (.blk 5 (.seq
  (.reg [⟨some 15, none, .mv (.val (.int .i64 0))⟩] [] [2, 7, 13, 14, 15])
  (.blk 6 (.loop (.seq
  (.seq
  (.reg [⟨some 146, none, .mv (.tmp 15)⟩,
    ⟨some 147, none, .bin .lss (.tmp 146) (.val (.int .i64 6))⟩] [] [2, 7, 13, 14, 15, 147])
  (.cond (.tmp 147)
  (.skip)
  (.ext 6)))
  (.seq
  (.blk 7 (.seq
  (.reg [⟨some 150, none, .ld (some 4) (.tmp 2)⟩,
    ⟨some 151, none, .mv (.tmp 14)⟩,
    ⟨some 152, none, .mv (.tmp 15)⟩,
    ⟨some 153, none, .call 25 .pure [(.tmp 150), (.tmp 151), (.tmp 152)]⟩] [] [2, 7, 13, 14, 15, 153])
  (.cond (.tmp 153)
  (.reg [⟨some 154, none, .mv (.tmp 13)⟩,
    ⟨some 155, none, .bin .add (.tmp 154) (.val (.int .i64 1))⟩,
    ⟨some 13, none, .mv (.tmp 155)⟩] [] [2, 7, 13, 14, 15])
  (.skip))))
  (.reg [⟨some 148, none, .mv (.tmp 15)⟩,
    ⟨some 149, none, .bin .add (.tmp 148) (.val (.int .i64 1))⟩,
    ⟨some 15, none, .mv (.tmp 149)⟩] [] [2, 7, 13, 14, 15])))))))
  (.reg [⟨some 144, none, .mv (.tmp 14)⟩,
    ⟨some 145, none, .bin .add (.tmp 144) (.val (.int .i64 1))⟩,
    ⟨some 14, none, .mv (.tmp 145)⟩] [] [2, 7, 13, 14]))))))
  (.seq
  (.reg [⟨some 156, none, .mv (.tmp 7)⟩,
    ⟨some 157, none, .mv (.tmp 13)⟩,
    ⟨some 158, none, .bin .eql (.tmp 156) (.tmp 157)⟩,
    ⟨some 159, none, .mv (.tmp 158)⟩,
    ⟨some 160, (some (159, true)), .call 17 .pure []⟩,
    ⟨some 161, none, .pick (.tmp 159) (.tmp 160) (.val (.bool false))⟩,
    ⟨some 4, none, .mv (.tmp 161)⟩] [] [4])
  (.ret)))))))))⟩
theorem pf6_ok : fnOk Try.prog 6 pf6 = true := by kernel_rfl

/-- hinterland/hinterlandlaw07.BlockTakes -/
def pf7 : PFn := ⟨48, 5, [.tmp 10], .seq
  (.reg [⟨some 5, none, .boxp 25 (.tmp 0)⟩,
    ⟨some 10, none, .mv (.val (.bool false))⟩] [] [1, 2, 3, 4, 5])
  (.seq
  (.seq
  (.reg [⟨some 15, none, .ld (some 4) (.tmp 5)⟩,
    ⟨some 16, none, .mv (.tmp 1)⟩,
    ⟨some 17, none, .call 16 .pure [(.tmp 15), (.tmp 16)]⟩] [] [1, 2, 3, 4, 5, 17])
  (.cond (.tmp 17)
  (.seq
  (.reg [⟨some 18, none, .call 17 .pure []⟩,
    ⟨some 10, none, .mv (.tmp 18)⟩] [] [10])
  (.ret))
  (.skip)))
  (.seq
  (.reg [⟨some 20, none, .ld (some 4) (.tmp 5)⟩,
    ⟨some 21, none, .mv (.tmp 1)⟩,
    ⟨some 22, none, .mv (.tmp 2)⟩,
    ⟨some 23, none, .mv (.tmp 3)⟩,
    ⟨some 24, none, .mv (.tmp 4)⟩,
    ⟨some 25, none, .call 26 .pure [(.tmp 20), (.tmp 21), (.tmp 22), (.tmp 23), (.tmp 24)]⟩,
    ⟨some 19, none, .mv (.tmp 25)⟩,
    ⟨some 26, none, .ext 0 (.tmp 19)⟩,
    ⟨some 27, none, .ext 1 (.tmp 19)⟩,
    ⟨some 11, none, .mv (.tmp 26)⟩,
    ⟨some 12, none, .mv (.tmp 27)⟩] [] [1, 2, 3, 4, 5, 11, 12])
  (.seq
  (.reg [⟨some 29, none, .ld (some 4) (.tmp 5)⟩,
    ⟨some 30, none, .mv (.tmp 1)⟩,
    ⟨some 31, none, .mv (.tmp 2)⟩,
    ⟨some 32, none, .mv (.tmp 3)⟩,
    ⟨some 33, none, .mv (.tmp 4)⟩,
    ⟨some 34, none, .call 27 .pure [(.tmp 29), (.tmp 30), (.tmp 31), (.tmp 32), (.tmp 33)]⟩,
    ⟨some 28, none, .mv (.tmp 34)⟩,
    ⟨some 35, none, .ext 0 (.tmp 28)⟩,
    ⟨some 36, none, .ext 1 (.tmp 28)⟩,
    ⟨some 13, none, .mv (.tmp 35)⟩,
    ⟨some 14, none, .mv (.tmp 36)⟩] [] [11, 12, 13, 14])
  (.seq
  (.reg [⟨some 37, none, .mv (.tmp 14)⟩,
    ⟨some 38, none, .mv (.tmp 12)⟩,
    ⟨some 39, none, .bin .eql (.tmp 37) (.tmp 38)⟩,
    ⟨some 40, none, .mv (.tmp 39)⟩,
    ⟨some 41, (some (40, true)), .mv (.tmp 13)⟩,
    ⟨some 42, (some (40, true)), .mv (.tmp 11)⟩,
    ⟨some 43, (some (40, true)), .call 28 .pure [(.tmp 41), (.tmp 42)]⟩,
    ⟨some 44, none, .pick (.tmp 40) (.tmp 43) (.val (.bool false))⟩,
    ⟨some 45, none, .mv (.tmp 44)⟩,
    ⟨some 46, (some (45, true)), .call 17 .pure []⟩,
    ⟨some 47, none, .pick (.tmp 45) (.tmp 46) (.val (.bool false))⟩,
    ⟨some 10, none, .mv (.tmp 47)⟩] [] [10])
  (.ret)))))⟩
theorem pf7_ok : fnOk Try.prog 7 pf7 = true := by kernel_rfl

/-- hinterland/hinterlandlaw07.BlockMays -/
def pf8 : PFn := ⟨44, 4, [.tmp 8], .seq
  (.reg [⟨some 4, none, .boxp 25 (.tmp 0)⟩,
    ⟨some 6, none, .boxp 48 (.tmp 2)⟩,
    ⟨some 7, none, .boxp 48 (.tmp 3)⟩,
    ⟨some 8, none, .mv (.val (.bool false))⟩] [] [1, 4, 6, 7])
  (.seq
  (.seq
  (.reg [⟨some 13, none, .ld (some 4) (.tmp 4)⟩,
    ⟨some 14, none, .mv (.tmp 1)⟩,
    ⟨some 15, none, .call 16 .pure [(.tmp 13), (.tmp 14)]⟩] [] [1, 4, 6, 7, 15])
  (.cond (.tmp 15)
  (.seq
  (.reg [⟨some 16, none, .call 17 .pure []⟩,
    ⟨some 8, none, .mv (.tmp 16)⟩] [] [8])
  (.ret))
  (.skip)))
  (.seq
  (.reg [⟨some 18, none, .ld (some 4) (.tmp 4)⟩,
    ⟨some 19, none, .mv (.tmp 1)⟩,
    ⟨some 20, none, .ld (some 3) (.tmp 6)⟩,
    ⟨some 21, none, .ld (some 3) (.tmp 7)⟩,
    ⟨some 22, none, .call 29 .pure [(.tmp 18), (.tmp 19), (.tmp 20), (.tmp 21)]⟩,
    ⟨some 17, none, .mv (.tmp 22)⟩,
    ⟨some 23, none, .ext 0 (.tmp 17)⟩,
    ⟨some 24, none, .ext 1 (.tmp 17)⟩,
    ⟨some 9, none, .mv (.tmp 23)⟩,
    ⟨some 10, none, .mv (.tmp 24)⟩] [] [1, 4, 6, 7, 9, 10])
  (.seq
  (.reg [⟨some 26, none, .ld (some 4) (.tmp 4)⟩,
    ⟨some 27, none, .mv (.tmp 1)⟩,
    ⟨some 28, none, .ld (some 3) (.tmp 6)⟩,
    ⟨some 29, none, .ld (some 3) (.tmp 7)⟩,
    ⟨some 30, none, .call 30 .pure [(.tmp 26), (.tmp 27), (.tmp 28), (.tmp 29)]⟩,
    ⟨some 25, none, .mv (.tmp 30)⟩,
    ⟨some 31, none, .ext 0 (.tmp 25)⟩,
    ⟨some 32, none, .ext 1 (.tmp 25)⟩,
    ⟨some 11, none, .mv (.tmp 31)⟩,
    ⟨some 12, none, .mv (.tmp 32)⟩] [] [9, 10, 11, 12])
  (.seq
  (.reg [⟨some 33, none, .mv (.tmp 12)⟩,
    ⟨some 34, none, .mv (.tmp 10)⟩,
    ⟨some 35, none, .bin .eql (.tmp 33) (.tmp 34)⟩,
    ⟨some 36, none, .mv (.tmp 35)⟩,
    ⟨some 37, (some (36, true)), .mv (.tmp 11)⟩,
    ⟨some 38, (some (36, true)), .mv (.tmp 9)⟩,
    ⟨some 39, (some (36, true)), .eqb false (.tmp 37) (.tmp 38)⟩,
    ⟨some 40, none, .pick (.tmp 36) (.tmp 39) (.val (.bool false))⟩,
    ⟨some 41, none, .mv (.tmp 40)⟩,
    ⟨some 42, (some (41, true)), .call 17 .pure []⟩,
    ⟨some 43, none, .pick (.tmp 41) (.tmp 42) (.val (.bool false))⟩,
    ⟨some 8, none, .mv (.tmp 43)⟩] [] [8])
  (.ret)))))⟩
theorem pf8_ok : fnOk Try.prog 8 pf8 = true := by kernel_rfl

/-- hinterland/hinterlandlaw07.BlockPuts -/
def pf9 : PFn := ⟨40, 3, [.tmp 6], .seq
  (.reg [⟨some 3, none, .boxp 25 (.tmp 0)⟩,
    ⟨some 5, none, .boxp 45 (.tmp 2)⟩,
    ⟨some 6, none, .mv (.val (.bool false))⟩] [] [1, 3, 5])
  (.seq
  (.seq
  (.reg [⟨some 11, none, .ld (some 4) (.tmp 3)⟩,
    ⟨some 12, none, .mv (.tmp 1)⟩,
    ⟨some 13, none, .call 16 .pure [(.tmp 11), (.tmp 12)]⟩] [] [1, 3, 5, 13])
  (.cond (.tmp 13)
  (.seq
  (.reg [⟨some 14, none, .call 17 .pure []⟩,
    ⟨some 6, none, .mv (.tmp 14)⟩] [] [6])
  (.ret))
  (.skip)))
  (.seq
  (.reg [⟨some 16, none, .ld (some 4) (.tmp 3)⟩,
    ⟨some 17, none, .mv (.tmp 1)⟩,
    ⟨some 18, none, .ld (some 4) (.tmp 5)⟩,
    ⟨some 19, none, .call 31 .pure [(.tmp 16), (.tmp 17), (.tmp 18)]⟩,
    ⟨some 15, none, .mv (.tmp 19)⟩,
    ⟨some 20, none, .ext 0 (.tmp 15)⟩,
    ⟨some 21, none, .ext 1 (.tmp 15)⟩,
    ⟨some 7, none, .mv (.tmp 20)⟩,
    ⟨some 8, none, .mv (.tmp 21)⟩] [] [1, 3, 5, 7, 8])
  (.seq
  (.reg [⟨some 23, none, .ld (some 4) (.tmp 3)⟩,
    ⟨some 24, none, .mv (.tmp 1)⟩,
    ⟨some 25, none, .ld (some 4) (.tmp 5)⟩,
    ⟨some 26, none, .call 32 .pure [(.tmp 23), (.tmp 24), (.tmp 25)]⟩,
    ⟨some 22, none, .mv (.tmp 26)⟩,
    ⟨some 27, none, .ext 0 (.tmp 22)⟩,
    ⟨some 28, none, .ext 1 (.tmp 22)⟩,
    ⟨some 9, none, .mv (.tmp 27)⟩,
    ⟨some 10, none, .mv (.tmp 28)⟩] [] [7, 8, 9, 10])
  (.seq
  (.reg [⟨some 29, none, .mv (.tmp 10)⟩,
    ⟨some 30, none, .mv (.tmp 8)⟩,
    ⟨some 31, none, .bin .eql (.tmp 29) (.tmp 30)⟩,
    ⟨some 32, none, .mv (.tmp 31)⟩,
    ⟨some 33, (some (32, true)), .mv (.tmp 9)⟩,
    ⟨some 34, (some (32, true)), .mv (.tmp 7)⟩,
    ⟨some 35, (some (32, true)), .call 28 .pure [(.tmp 33), (.tmp 34)]⟩,
    ⟨some 36, none, .pick (.tmp 32) (.tmp 35) (.val (.bool false))⟩,
    ⟨some 37, none, .mv (.tmp 36)⟩,
    ⟨some 38, (some (37, true)), .call 17 .pure []⟩,
    ⟨some 39, none, .pick (.tmp 37) (.tmp 38) (.val (.bool false))⟩,
    ⟨some 6, none, .mv (.tmp 39)⟩] [] [6])
  (.ret)))))⟩
theorem pf9_ok : fnOk Try.prog 9 pf9 = true := by kernel_rfl

/-- hinterland/hinterlandlaw07.BlockSplits -/
def pf10 : PFn := ⟨174, 3, [.tmp 6], .seq
  (.reg [⟨some 3, none, .boxp 25 (.tmp 0)⟩,
    ⟨some 5, none, .boxp 45 (.tmp 2)⟩,
    ⟨some 6, none, .mv (.val (.bool false))⟩] [] [1, 3, 5])
  (.seq
  (.seq
  (.reg [⟨some 21, none, .ld (some 4) (.tmp 3)⟩,
    ⟨some 22, none, .mv (.tmp 1)⟩,
    ⟨some 23, none, .call 16 .pure [(.tmp 21), (.tmp 22)]⟩] [] [1, 3, 5, 23])
  (.cond (.tmp 23)
  (.seq
  (.reg [⟨some 24, none, .call 17 .pure []⟩,
    ⟨some 6, none, .mv (.tmp 24)⟩] [] [6])
  (.ret))
  (.skip)))
  (.seq
  (.reg [⟨some 26, none, .ld (some 4) (.tmp 3)⟩,
    ⟨some 27, none, .mv (.tmp 1)⟩,
    ⟨some 28, none, .ld (some 4) (.tmp 5)⟩,
    ⟨some 29, none, .call 32 .pure [(.tmp 26), (.tmp 27), (.tmp 28)]⟩,
    ⟨some 25, none, .mv (.tmp 29)⟩,
    ⟨some 30, none, .ext 0 (.tmp 25)⟩,
    ⟨some 31, none, .ext 1 (.tmp 25)⟩,
    ⟨some 7, none, .mv (.tmp 30)⟩,
    ⟨some 8, none, .mv (.tmp 31)⟩] [] [1, 3, 7, 8])
  (.seq
  (.seq
  (.reg [⟨some 32, none, .mv (.tmp 8)⟩,
    ⟨some 33, none, .bin .neq (.tmp 32) (.val (.int .i64 0))⟩] [] [1, 3, 7, 33])
  (.cond (.tmp 33)
  (.seq
  (.reg [⟨some 34, none, .call 17 .pure []⟩,
    ⟨some 6, none, .mv (.tmp 34)⟩] [] [6])
  (.ret))
  (.skip)))
  (.seq
  (.reg [⟨some 36, none, .ld (some 4) (.tmp 3)⟩,
    ⟨some 37, none, .mv (.tmp 1)⟩,
    ⟨some 38, none, .call 21 .pure [(.tmp 36), (.tmp 37)]⟩,
    ⟨some 35, none, .mv (.tmp 38)⟩,
    ⟨some 39, none, .ext 0 (.tmp 35)⟩,
    ⟨some 40, none, .ext 1 (.tmp 35)⟩,
    ⟨some 9, none, .mv (.tmp 39)⟩,
    ⟨some 10, none, .mv (.tmp 40)⟩] [] [3, 7, 9, 10])
  (.seq
  (.reg [⟨some 42, none, .ld (some 4) (.tmp 3)⟩,
    ⟨some 43, none, .mv (.tmp 7)⟩,
    ⟨some 44, none, .call 21 .pure [(.tmp 42), (.tmp 43)]⟩,
    ⟨some 41, none, .mv (.tmp 44)⟩,
    ⟨some 45, none, .ext 0 (.tmp 41)⟩,
    ⟨some 46, none, .ext 1 (.tmp 41)⟩,
    ⟨some 11, none, .mv (.tmp 45)⟩,
    ⟨some 12, none, .mv (.tmp 46)⟩] [] [3, 9, 10, 11, 12])
  (.seq
  (.seq
  (.reg [⟨some 47, none, .mv (.tmp 10)⟩,
    ⟨some 48, none, .bin .neq (.tmp 47) (.val (.int .i64 0))⟩,
    ⟨some 49, none, .mv (.tmp 48)⟩,
    ⟨some 50, (some (49, false)), .mv (.tmp 12)⟩,
    ⟨some 51, (some (49, false)), .bin .neq (.tmp 50) (.val (.int .i64 0))⟩,
    ⟨some 52, none, .pick (.tmp 49) (.val (.bool true)) (.tmp 51)⟩,
    ⟨some 53, none, .mv (.tmp 52)⟩,
    ⟨some 54, (some (53, false)), .mv (.tmp 11)⟩,
    ⟨some 55, (some (53, false)), .len (.tmp 54)⟩,
    ⟨some 56, (some (53, false)), .mv (.tmp 9)⟩,
    ⟨some 57, (some (53, false)), .len (.tmp 56)⟩,
    ⟨some 58, (some (53, false)), .bin .lss (.tmp 55) (.tmp 57)⟩,
    ⟨some 59, none, .pick (.tmp 53) (.val (.bool true)) (.tmp 58)⟩,
    ⟨some 60, none, .mv (.tmp 59)⟩,
    ⟨some 61, (some (60, false)), .mv (.tmp 11)⟩,
    ⟨some 62, (some (60, false)), .len (.tmp 61)⟩,
    ⟨some 63, (some (60, false)), .mv (.tmp 9)⟩,
    ⟨some 64, (some (60, false)), .len (.tmp 63)⟩,
    ⟨some 65, (some (60, false)), .bin .add (.tmp 64) (.val (.int .i64 1))⟩,
    ⟨some 66, (some (60, false)), .bin .gtr (.tmp 62) (.tmp 65)⟩,
    ⟨some 67, none, .pick (.tmp 60) (.val (.bool true)) (.tmp 66)⟩] [] [3, 9, 11, 67])
  (.cond (.tmp 67)
  (.seq
  (.reg [⟨some 6, none, .mv (.val (.bool false))⟩] [] [6])
  (.ret))
  (.skip)))
  (.seq
  (.reg [⟨some 68, none, .faddr 2 (.tmp 3)⟩,
    ⟨some 69, none, .ld none (.tmp 68)⟩,
    ⟨some 70, none, .len (.tmp 69)⟩,
    ⟨some 71, none, .bin .mul (.val (.int .i64 8)) (.tmp 70)⟩,
    ⟨some 72, none, .mks 3 1 8 [(.int .i64 0)] (.tmp 71) (.tmp 71)⟩,
    ⟨some 13, none, .mv (.tmp 72)⟩] [] [9, 11, 13])
  (.seq
  (.seq
  (.reg [⟨some 14, none, .mv (.val (.int .i64 0))⟩] [] [9, 11, 13, 14])
  (.blk 0 (.loop (.seq
  (.seq
  (.reg [⟨some 73, none, .mv (.tmp 14)⟩,
    ⟨some 74, none, .mv (.tmp 9)⟩,
    ⟨some 75, none, .len (.tmp 74)⟩,
    ⟨some 76, none, .bin .lss (.tmp 73) (.tmp 75)⟩] [] [9, 11, 13, 14, 76])
  (.cond (.tmp 76)
  (.skip)
  (.ext 0)))
  (.seq
  (.blk 1 (.seq
  (.reg [⟨some 15, none, .mv (.val (.int .i64 0))⟩] [] [9, 11, 13, 14, 15])
  (.blk 2 (.loop (.seq
  (.seq
  (.reg [⟨some 79, none, .mv (.tmp 15)⟩,
    ⟨some 80, none, .mv (.tmp 9)⟩,
    ⟨some 81, none, .mv (.tmp 14)⟩,
    ⟨some 82, none, .iaS 2 (.tmp 80) (.tmp 81)⟩,
    ⟨some 83, none, .faddr 1 (.tmp 82)⟩,
    ⟨some 84, none, .ld none (.tmp 83)⟩,
    ⟨some 85, none, .len (.tmp 84)⟩,
    ⟨some 86, none, .bin .lss (.tmp 79) (.tmp 85)⟩] [] [9, 11, 13, 14, 15, 86])
  (.cond (.tmp 86)
  (.skip)
  (.ext 2)))
  (.seq
  (.blk 3 (.seq
  (.reg [⟨some 89, none, .mv (.tmp 9)⟩,
    ⟨some 90, none, .mv (.tmp 14)⟩,
    ⟨some 91, none, .iaS 2 (.tmp 89) (.tmp 90)⟩,
    ⟨some 92, none, .faddr 1 (.tmp 91)⟩,
    ⟨some 93, none, .ld none (.tmp 92)⟩,
    ⟨some 94, none, .mv (.tmp 15)⟩,
    ⟨some 95, none, .iaS 1 (.tmp 93) (.tmp 94)⟩,
    ⟨some 96, none, .ld none (.tmp 95)⟩,
    ⟨some 16, none, .mv (.tmp 96)⟩] [] [9, 11, 13, 14, 15, 16])
  (.seq
  (.reg [⟨some 97, none, .mv (.tmp 16)⟩,
    ⟨some 98, none, .bin .geq (.tmp 97) (.val (.int .i64 0))⟩,
    ⟨some 99, none, .mv (.tmp 98)⟩,
    ⟨some 100, (some (99, true)), .mv (.tmp 16)⟩,
    ⟨some 101, (some (99, true)), .mv (.tmp 13)⟩,
    ⟨some 102, (some (99, true)), .len (.tmp 101)⟩,
    ⟨some 103, (some (99, true)), .bin .lss (.tmp 100) (.tmp 102)⟩,
    ⟨some 104, none, .pick (.tmp 99) (.tmp 103) (.val (.bool false))⟩] [] [9, 11, 13, 14, 15, 16, 104])
  (.cond (.tmp 104)
  (.reg [⟨some 105, none, .mv (.tmp 13)⟩,
    ⟨some 106, none, .mv (.tmp 16)⟩,
    ⟨some 107, none, .mv (.tmp 9)⟩,
    ⟨some 108, none, .mv (.tmp 14)⟩,
    ⟨some 109, none, .iaS 2 (.tmp 107) (.tmp 108)⟩,
    ⟨some 110, none, .faddr 0 (.tmp 109)⟩,
    ⟨some 111, none, .ld none (.tmp 110)⟩,
    ⟨some 112, none, .iaS 1 (.tmp 105) (.tmp 106)⟩,
    ⟨none, none, .st 1 (.tmp 112) (.tmp 111)⟩] [] [9, 11, 13, 14, 15])
  (.skip)))))
  (.reg [⟨some 87, none, .mv (.tmp 15)⟩,
    ⟨some 88, none, .bin .add (.tmp 87) (.val (.int .i64 1))⟩,
    ⟨some 15, none, .mv (.tmp 88)⟩] [] [9, 11, 13, 14, 15])))))))
  (.reg [⟨some 77, none, .mv (.tmp 14)⟩,
    ⟨some 78, none, .bin .add (.tmp 77) (.val (.int .i64 1))⟩,
    ⟨some 14, none, .mv (.tmp 78)⟩] [] [9, 11, 13, 14]))))))
  (.seq
  (.seq
  (.reg [⟨some 17, none, .mv (.val (.int .i64 0))⟩] [] [11, 13, 17])
  (.blk 4 (.loop (.seq
  (.seq
  (.reg [⟨some 113, none, .mv (.tmp 17)⟩,
    ⟨some 114, none, .mv (.tmp 11)⟩,
    ⟨some 115, none, .len (.tmp 114)⟩,
    ⟨some 116, none, .bin .lss (.tmp 113) (.tmp 115)⟩] [] [11, 13, 17, 116])
  (.cond (.tmp 116)
  (.skip)
  (.ext 4)))
  (.seq
  (.blk 5 (.seq
  (.reg [⟨some 18, none, .mv (.val (.int .i64 0))⟩] [] [11, 13, 17, 18])
  (.blk 6 (.loop (.seq
  (.seq
  (.reg [⟨some 119, none, .mv (.tmp 18)⟩,
    ⟨some 120, none, .mv (.tmp 11)⟩,
    ⟨some 121, none, .mv (.tmp 17)⟩,
    ⟨some 122, none, .iaS 2 (.tmp 120) (.tmp 121)⟩,
    ⟨some 123, none, .faddr 1 (.tmp 122)⟩,
    ⟨some 124, none, .ld none (.tmp 123)⟩,
    ⟨some 125, none, .len (.tmp 124)⟩,
    ⟨some 126, none, .bin .lss (.tmp 119) (.tmp 125)⟩] [] [11, 13, 17, 18, 126])
  (.cond (.tmp 126)
  (.skip)
  (.ext 6)))
  (.seq
  (.blk 7 (.seq
  (.reg [⟨some 129, none, .mv (.tmp 11)⟩,
    ⟨some 130, none, .mv (.tmp 17)⟩,
    ⟨some 131, none, .iaS 2 (.tmp 129) (.tmp 130)⟩,
    ⟨some 132, none, .faddr 1 (.tmp 131)⟩,
    ⟨some 133, none, .ld none (.tmp 132)⟩,
    ⟨some 134, none, .mv (.tmp 18)⟩,
    ⟨some 135, none, .iaS 1 (.tmp 133) (.tmp 134)⟩,
    ⟨some 136, none, .ld none (.tmp 135)⟩,
    ⟨some 137, none, .mv (.tmp 11)⟩,
    ⟨some 138, none, .mv (.tmp 17)⟩,
    ⟨some 139, none, .iaS 2 (.tmp 137) (.tmp 138)⟩,
    ⟨some 140, none, .faddr 1 (.tmp 139)⟩,
    ⟨some 141, none, .ld none (.tmp 140)⟩,
    ⟨some 142, none, .iaS 1 (.tmp 141) (.val (.int .i64 0))⟩,
    ⟨some 143, none, .ld none (.tmp 142)⟩,
    ⟨some 19, none, .mv (.tmp 136)⟩,
    ⟨some 20, none, .mv (.tmp 143)⟩] [] [11, 13, 17, 18, 19, 20])
  (.seq
  (.reg [⟨some 144, none, .mv (.tmp 19)⟩,
    ⟨some 145, none, .bin .lss (.tmp 144) (.val (.int .i64 0))⟩,
    ⟨some 146, none, .mv (.tmp 145)⟩,
    ⟨some 147, (some (146, false)), .mv (.tmp 19)⟩,
    ⟨some 148, (some (146, false)), .mv (.tmp 13)⟩,
    ⟨some 149, (some (146, false)), .len (.tmp 148)⟩,
    ⟨some 150, (some (146, false)), .bin .geq (.tmp 147) (.tmp 149)⟩,
    ⟨some 151, none, .pick (.tmp 146) (.val (.bool true)) (.tmp 150)⟩,
    ⟨some 152, none, .mv (.tmp 151)⟩,
    ⟨some 153, (some (152, false)), .mv (.tmp 20)⟩,
    ⟨some 154, (some (152, false)), .bin .lss (.tmp 153) (.val (.int .i64 0))⟩,
    ⟨some 155, none, .pick (.tmp 152) (.val (.bool true)) (.tmp 154)⟩,
    ⟨some 156, none, .mv (.tmp 155)⟩,
    ⟨some 157, (some (156, false)), .mv (.tmp 20)⟩,
    ⟨some 158, (some (156, false)), .mv (.tmp 13)⟩,
    ⟨some 159, (some (156, false)), .len (.tmp 158)⟩,
    ⟨some 160, (some (156, false)), .bin .geq (.tmp 157) (.tmp 159)⟩,
    ⟨some 161, none, .pick (.tmp 156) (.val (.bool true)) (.tmp 160)⟩,
    ⟨some 162, none, .mv (.tmp 161)⟩,
    ⟨some 163, (some (162, false)), .mv (.tmp 13)⟩,
    ⟨some 164, (some (162, false)), .mv (.tmp 19)⟩,
    ⟨some 165, (some (162, false)), .iaS 1 (.tmp 163) (.tmp 164)⟩,
    ⟨some 166, (some (162, false)), .ld none (.tmp 165)⟩,
    ⟨some 167, (some (162, false)), .mv (.tmp 13)⟩,
    ⟨some 168, (some (162, false)), .mv (.tmp 20)⟩,
    ⟨some 169, (some (162, false)), .iaS 1 (.tmp 167) (.tmp 168)⟩,
    ⟨some 170, (some (162, false)), .ld none (.tmp 169)⟩,
    ⟨some 171, (some (162, false)), .bin .neq (.tmp 166) (.tmp 170)⟩,
    ⟨some 172, none, .pick (.tmp 162) (.val (.bool true)) (.tmp 171)⟩] [] [11, 13, 17, 18, 172])
  (.cond (.tmp 172)
  (.seq
  (.reg [⟨some 6, none, .mv (.val (.bool false))⟩] [] [6])
  (.ret))
  (.skip)))))
  (.reg [⟨some 127, none, .mv (.tmp 18)⟩,
    ⟨some 128, none, .bin .add (.tmp 127) (.val (.int .i64 1))⟩,
    ⟨some 18, none, .mv (.tmp 128)⟩] [] [11, 13, 17, 18])))))))
  (.reg [⟨some 117, none, .mv (.tmp 17)⟩,
    ⟨some 118, none, .bin .add (.tmp 117) (.val (.int .i64 1))⟩,
    ⟨some 17, none, .mv (.tmp 118)⟩] [] [11, 13, 17]))))))
  (.seq
  (.reg [⟨some 173, none, .call 17 .pure []⟩,
    ⟨some 6, none, .mv (.tmp 173)⟩] [] [6])
  (.ret)))))))))))⟩
theorem pf10_ok : fnOk Try.prog 10 pf10 = true := by kernel_rfl

/-- hinterland/hinterlandlaw07.BlockNil -/
def pf11 : PFn := ⟨99, 4, [.tmp 8], .seq
  (.reg [⟨some 8, none, .mv (.val (.bool false))⟩] [] [0, 1, 2, 3])
  (.seq
  (.reg [⟨some 9, none, .mv (.val .nilptr)⟩] [] [0, 1, 2, 3, 9])
  (.seq
  (.reg [⟨some 16, none, .bld [(.int .i64 0), (.int .i64 0), (.list .nil 1 []), (.list .nil 1 []), (.list .nil 4 []), (.list .nil 1 [])] []⟩,
    ⟨some 17, none, .boxp 56 (.tmp 16)⟩,
    ⟨some 10, none, .mv (.tmp 17)⟩] [] [0, 1, 2, 3, 9, 10])
  (.seq
  (.reg [⟨some 19, none, .mv (.tmp 9)⟩,
    ⟨some 20, none, .mv (.tmp 0)⟩,
    ⟨some 21, none, .mv (.tmp 1)⟩,
    ⟨some 22, none, .call 33 .pure [(.tmp 19), (.tmp 20), (.tmp 21)]⟩,
    ⟨some 18, none, .mv (.tmp 22)⟩,
    ⟨some 23, none, .ext 0 (.tmp 18)⟩,
    ⟨some 24, none, .ext 1 (.tmp 18)⟩,
    ⟨some 11, none, .mv (.tmp 23)⟩,
    ⟨some 12, none, .mv (.tmp 24)⟩] [] [0, 1, 2, 3, 9, 10, 12])
  (.seq
  (.reg [⟨some 26, none, .mv (.tmp 10)⟩,
    ⟨some 27, none, .mv (.tmp 0)⟩,
    ⟨some 28, none, .mv (.tmp 1)⟩,
    ⟨some 29, none, .call 33 .pure [(.tmp 26), (.tmp 27), (.tmp 28)]⟩,
    ⟨some 25, none, .mv (.tmp 29)⟩,
    ⟨some 30, none, .ext 0 (.tmp 25)⟩,
    ⟨some 31, none, .ext 1 (.tmp 25)⟩,
    ⟨some 13, none, .mv (.tmp 30)⟩,
    ⟨some 14, none, .mv (.tmp 31)⟩] [] [0, 1, 2, 3, 9, 10, 12, 14])
  (.seq
  (.reg [⟨some 32, none, .mv (.tmp 0)⟩,
    ⟨some 33, none, .mv (.tmp 1)⟩,
    ⟨some 34, none, .mv (.tmp 2)⟩,
    ⟨some 35, none, .mv (.tmp 3)⟩,
    ⟨some 36, none, .bld [(.int .i64 0), (.int .i64 0), (.int .i64 0), (.int .i64 0)] [(0, 1, (.tmp 32)), (1, 1, (.tmp 33)), (2, 1, (.tmp 34)), (3, 1, (.tmp 35))]⟩,
    ⟨some 15, none, .zer 45 (.agg [(.int .i64 0), (.int .i64 0), (.int .i64 0), (.int .i64 0)])⟩,
    ⟨none, none, .st 4 (.tmp 15) (.tmp 36)⟩] [] [0, 1, 2, 9, 10, 12, 14, 15])
  (.seq
  (.reg [⟨some 37, none, .mv (.tmp 9)⟩,
    ⟨some 38, none, .mv (.tmp 0)⟩,
    ⟨some 39, none, .mv (.tmp 1)⟩,
    ⟨some 40, none, .call 34 .pure [(.tmp 37), (.tmp 38), (.tmp 39)]⟩,
    ⟨some 41, none, .bin .eql (.tmp 40) (.val (.int .i64 1))⟩,
    ⟨some 42, none, .mv (.tmp 41)⟩,
    ⟨some 43, (some (42, true)), .mv (.tmp 9)⟩,
    ⟨some 44, (some (42, true)), .mv (.tmp 0)⟩,
    ⟨some 45, (some (42, true)), .mv (.tmp 1)⟩,
    ⟨some 46, (some (42, true)), .call 35 .pure [(.tmp 43), (.tmp 44), (.tmp 45)]⟩,
    ⟨some 47, (some (42, true)), .bin .eql (.tmp 46) (.val (.int .i64 1))⟩,
    ⟨some 48, none, .pick (.tmp 42) (.tmp 47) (.val (.bool false))⟩,
    ⟨some 49, none, .mv (.tmp 48)⟩,
    ⟨some 50, (some (49, true)), .mv (.tmp 9)⟩,
    ⟨some 51, (some (49, true)), .ld (some 4) (.tmp 15)⟩,
    ⟨some 52, (some (49, true)), .call 36 .pure [(.tmp 50), (.tmp 51)]⟩,
    ⟨some 53, (some (49, true)), .bin .eql (.tmp 52) (.val (.int .i64 1))⟩,
    ⟨some 54, none, .pick (.tmp 49) (.tmp 53) (.val (.bool false))⟩,
    ⟨some 55, none, .mv (.tmp 54)⟩,
    ⟨some 56, (some (55, true)), .mv (.tmp 9)⟩,
    ⟨some 57, (some (55, true)), .mv (.tmp 0)⟩,
    ⟨some 58, (some (55, true)), .mv (.tmp 1)⟩,
    ⟨some 59, (some (55, true)), .mv (.tmp 2)⟩,
    ⟨some 60, (some (55, true)), .call 37 .pure [(.tmp 56), (.tmp 57), (.tmp 58), (.tmp 59)]⟩,
    ⟨some 61, (some (55, true)), .bin .eql (.tmp 60) (.val (.int .i64 1))⟩,
    ⟨some 62, none, .pick (.tmp 55) (.tmp 61) (.val (.bool false))⟩,
    ⟨some 63, none, .mv (.tmp 62)⟩,
    ⟨some 64, (some (63, true)), .mv (.tmp 12)⟩,
    ⟨some 65, (some (63, true)), .bin .eql (.tmp 64) (.val (.int .i64 1))⟩,
    ⟨some 66, none, .pick (.tmp 63) (.tmp 65) (.val (.bool false))⟩,
    ⟨some 67, none, .mv (.tmp 66)⟩,
    ⟨some 68, (some (67, true)), .mv (.tmp 9)⟩,
    ⟨some 69, (some (67, true)), .call 38 .pure [(.tmp 68)]⟩,
    ⟨some 70, (some (67, true)), .len (.tmp 69)⟩,
    ⟨some 71, (some (67, true)), .bin .eql (.tmp 70) (.val (.int .i64 0))⟩,
    ⟨some 72, none, .pick (.tmp 67) (.tmp 71) (.val (.bool false))⟩,
    ⟨some 73, none, .mv (.tmp 72)⟩,
    ⟨some 74, (some (73, true)), .mv (.tmp 10)⟩,
    ⟨some 75, (some (73, true)), .mv (.tmp 0)⟩,
    ⟨some 76, (some (73, true)), .mv (.tmp 1)⟩,
    ⟨some 77, (some (73, true)), .call 34 .pure [(.tmp 74), (.tmp 75), (.tmp 76)]⟩,
    ⟨some 78, (some (73, true)), .bin .eql (.tmp 77) (.val (.int .i64 1))⟩,
    ⟨some 79, none, .pick (.tmp 73) (.tmp 78) (.val (.bool false))⟩,
    ⟨some 80, none, .mv (.tmp 79)⟩,
    ⟨some 81, (some (80, true)), .mv (.tmp 10)⟩,
    ⟨some 82, (some (80, true)), .ld (some 4) (.tmp 15)⟩,
    ⟨some 83, (some (80, true)), .call 36 .pure [(.tmp 81), (.tmp 82)]⟩,
    ⟨some 84, (some (80, true)), .bin .eql (.tmp 83) (.val (.int .i64 1))⟩,
    ⟨some 85, none, .pick (.tmp 80) (.tmp 84) (.val (.bool false))⟩,
    ⟨some 86, none, .mv (.tmp 85)⟩,
    ⟨some 87, (some (86, true)), .mv (.tmp 14)⟩,
    ⟨some 88, (some (86, true)), .bin .eql (.tmp 87) (.val (.int .i64 1))⟩,
    ⟨some 89, none, .pick (.tmp 86) (.tmp 88) (.val (.bool false))⟩,
    ⟨some 90, none, .mv (.tmp 89)⟩,
    ⟨some 91, (some (90, true)), .mv (.tmp 10)⟩,
    ⟨some 92, (some (90, true)), .call 38 .pure [(.tmp 91)]⟩,
    ⟨some 93, (some (90, true)), .len (.tmp 92)⟩,
    ⟨some 94, (some (90, true)), .bin .eql (.tmp 93) (.val (.int .i64 0))⟩,
    ⟨some 95, none, .pick (.tmp 90) (.tmp 94) (.val (.bool false))⟩,
    ⟨some 96, none, .mv (.tmp 95)⟩,
    ⟨some 97, (some (96, true)), .call 17 .pure []⟩,
    ⟨some 98, none, .pick (.tmp 96) (.tmp 97) (.val (.bool false))⟩,
    ⟨some 8, none, .mv (.tmp 98)⟩] [] [8])
  (.ret)))))))⟩
theorem pf11_ok : fnOk Try.prog 11 pf11 = true := by kernel_rfl

/-- hinterland/hinterlandlaw07.BlockMap -/
def pf12 : PFn := ⟨211, 3, [.tmp 6], .seq
  (.reg [⟨some 3, none, .boxm 25 (.tmp 0)⟩,
    ⟨some 6, none, .mv (.val (.bool false))⟩] [] [1, 2, 3])
  (.seq
  (.seq
  (.reg [⟨some 27, none, .ld (some 4) (.tmp 3)⟩,
    ⟨some 28, none, .mv (.tmp 1)⟩,
    ⟨some 29, none, .call 16 .pure [(.tmp 27), (.tmp 28)]⟩,
    ⟨some 30, none, .mv (.tmp 29)⟩,
    ⟨some 31, (some (30, false)), .mv (.tmp 2)⟩,
    ⟨some 32, (some (30, false)), .len (.tmp 31)⟩,
    ⟨some 33, (some (30, false)), .bin .gtr (.tmp 32) (.val (.int .i64 60))⟩,
    ⟨some 34, none, .pick (.tmp 30) (.val (.bool true)) (.tmp 33)⟩] [] [1, 2, 3, 34])
  (.cond (.tmp 34)
  (.seq
  (.reg [⟨some 35, none, .call 17 .pure []⟩,
    ⟨some 6, none, .mv (.tmp 35)⟩] [] [6])
  (.ret))
  (.skip)))
  (.seq
  (.reg [⟨some 36, none, .ld (some 4) (.tmp 3)⟩,
    ⟨some 37, none, .mv (.tmp 1)⟩,
    ⟨some 38, none, .call 18 .pure [(.tmp 36), (.tmp 37)]⟩,
    ⟨some 7, none, .mv (.tmp 38)⟩] [] [1, 2, 3, 7])
  (.seq
  (.reg [⟨some 40, none, .ld (some 4) (.tmp 3)⟩,
    ⟨some 41, none, .mv (.tmp 1)⟩,
    ⟨some 42, none, .call 39 .pure [(.tmp 40), (.tmp 41)]⟩,
    ⟨some 39, none, .mv (.tmp 42)⟩,
    ⟨some 43, none, .ext 0 (.tmp 39)⟩,
    ⟨some 44, none, .ext 1 (.tmp 39)⟩,
    ⟨some 8, none, .mv (.tmp 43)⟩,
    ⟨some 9, none, .mv (.tmp 44)⟩] [] [1, 2, 3, 7, 8, 9])
  (.seq
  (.seq
  (.reg [⟨some 45, none, .mv (.tmp 9)⟩,
    ⟨some 46, none, .mv (.tmp 7)⟩,
    ⟨some 47, none, .bin .neq (.tmp 45) (.tmp 46)⟩] [] [1, 2, 3, 8, 9, 47])
  (.cond (.tmp 47)
  (.seq
  (.reg [⟨some 6, none, .mv (.val (.bool false))⟩] [] [6])
  (.ret))
  (.skip)))
  (.seq
  (.seq
  (.reg [⟨some 48, none, .mv (.tmp 9)⟩,
    ⟨some 49, none, .bin .neq (.tmp 48) (.val (.int .i64 0))⟩] [] [1, 2, 3, 8, 49])
  (.cond (.tmp 49)
  (.seq
  (.reg [⟨some 50, none, .mv (.tmp 8)⟩,
    ⟨some 51, none, .eqp false (.tmp 50) (.val .nilptr)⟩,
    ⟨some 52, none, .mv (.tmp 51)⟩,
    ⟨some 53, (some (52, true)), .call 17 .pure []⟩,
    ⟨some 54, none, .pick (.tmp 52) (.tmp 53) (.val (.bool false))⟩,
    ⟨some 6, none, .mv (.tmp 54)⟩] [] [6])
  (.ret))
  (.skip)))
  (.seq
  (.seq
  (.reg [⟨some 10, none, .mv (.val (.int .i64 0))⟩] [] [1, 2, 3, 8, 10])
  (.blk 0 (.loop (.trim (.seq
  (.seq
  (.reg [⟨some 55, none, .mv (.tmp 10)⟩,
    ⟨some 56, none, .mv (.tmp 2)⟩,
    ⟨some 57, none, .len (.tmp 56)⟩,
    ⟨some 58, none, .bin .lss (.tmp 55) (.tmp 57)⟩] [] [1, 2, 3, 8, 10, 58])
  (.cond (.tmp 58)
  (.skip)
  (.ext 0)))
  (.seq
  (.blk 1 (.seq
  (.reg [⟨some 61, none, .mv (.tmp 2)⟩,
    ⟨some 62, none, .mv (.tmp 10)⟩,
    ⟨some 63, none, .iaS 5 (.tmp 61) (.tmp 62)⟩,
    ⟨some 64, none, .ld (some 5) (.tmp 63)⟩,
    ⟨some 11, none, .zer 67 (.agg [(.int .i64 0), (.int .i64 0), (.int .i64 0), (.int .i64 0), (.int .i64 0)])⟩,
    ⟨none, none, .st 5 (.tmp 11) (.tmp 64)⟩] [] [1, 2, 3, 8, 10, 11])
  (.seq
  (.seq
  (.reg [⟨some 65, none, .faddr 0 (.tmp 11)⟩,
    ⟨some 66, none, .ld none (.tmp 65)⟩] [] [1, 2, 3, 8, 10, 11, 66])
  (.blk 2 (.seq
  (.reg [⟨some 68, none, .bin .eql (.tmp 66) (.val (.int .i64 0))⟩,
    ⟨some 67, none, .mv (.tmp 68)⟩] [] [1, 2, 3, 8, 10, 11, 66, 67])
  (.cond (.tmp 67)
  (.seq
  (.reg [⟨some 70, none, .ld (some 4) (.tmp 3)⟩,
    ⟨some 71, none, .faddr 1 (.tmp 11)⟩,
    ⟨some 72, none, .ld none (.tmp 71)⟩,
    ⟨some 73, none, .faddr 2 (.tmp 11)⟩,
    ⟨some 74, none, .ld none (.tmp 73)⟩,
    ⟨some 75, none, .call 40 .pure [(.tmp 70), (.tmp 72), (.tmp 74), (.val (.bool false))]⟩,
    ⟨some 69, none, .mv (.tmp 75)⟩,
    ⟨some 76, none, .ext 0 (.tmp 69)⟩,
    ⟨some 77, none, .ext 1 (.tmp 69)⟩,
    ⟨some 12, none, .zer 25 (.agg [(.int .i64 0), (.int .i64 0), (.list .nil 1 []), (.list .nil 1 [])])⟩,
    ⟨none, none, .st 4 (.tmp 12) (.tmp 76)⟩,
    ⟨some 13, none, .mv (.tmp 77)⟩] [] [1, 2, 3, 8, 10, 11, 12, 13])
  (.seq
  (.seq
  (.reg [⟨some 78, none, .mv (.tmp 8)⟩,
    ⟨some 79, none, .faddr 1 (.tmp 11)⟩,
    ⟨some 80, none, .ld none (.tmp 79)⟩,
    ⟨some 81, none, .faddr 2 (.tmp 11)⟩,
    ⟨some 82, none, .ld none (.tmp 81)⟩,
    ⟨some 83, none, .call 34 .pure [(.tmp 78), (.tmp 80), (.tmp 82)]⟩,
    ⟨some 84, none, .mv (.tmp 13)⟩,
    ⟨some 85, none, .bin .neq (.tmp 83) (.tmp 84)⟩] [] [1, 2, 3, 8, 10, 11, 12, 13, 85])
  (.cond (.tmp 85)
  (.seq
  (.reg [⟨some 6, none, .mv (.val (.bool false))⟩] [] [6])
  (.ret))
  (.skip)))
  (.seq
  (.reg [⟨some 86, none, .mv (.tmp 13)⟩,
    ⟨some 87, none, .bin .eql (.tmp 86) (.val (.int .i64 0))⟩] [] [1, 2, 3, 8, 10, 11, 12, 87])
  (.cond (.tmp 87)
  (.reg [⟨some 88, none, .ld (some 4) (.tmp 12)⟩,
    ⟨none, none, .st 4 (.tmp 3) (.tmp 88)⟩] [] [1, 2, 3, 8, 10, 11])
  (.skip)))))
  (.seq
  (.reg [⟨some 90, none, .bin .eql (.tmp 66) (.val (.int .i64 1))⟩,
    ⟨some 89, none, .mv (.tmp 90)⟩] [] [1, 2, 3, 8, 10, 11, 66, 89])
  (.cond (.tmp 89)
  (.seq
  (.reg [⟨some 92, none, .ld (some 4) (.tmp 3)⟩,
    ⟨some 93, none, .faddr 1 (.tmp 11)⟩,
    ⟨some 94, none, .ld none (.tmp 93)⟩,
    ⟨some 95, none, .faddr 2 (.tmp 11)⟩,
    ⟨some 96, none, .ld none (.tmp 95)⟩,
    ⟨some 97, none, .call 41 .pure [(.tmp 92), (.tmp 94), (.tmp 96)]⟩,
    ⟨some 91, none, .mv (.tmp 97)⟩,
    ⟨some 98, none, .ext 0 (.tmp 91)⟩,
    ⟨some 99, none, .ext 1 (.tmp 91)⟩,
    ⟨some 14, none, .zer 25 (.agg [(.int .i64 0), (.int .i64 0), (.list .nil 1 []), (.list .nil 1 [])])⟩,
    ⟨none, none, .st 4 (.tmp 14) (.tmp 98)⟩,
    ⟨some 15, none, .mv (.tmp 99)⟩] [] [1, 2, 3, 8, 10, 11, 14, 15])
  (.seq
  (.seq
  (.reg [⟨some 100, none, .mv (.tmp 8)⟩,
    ⟨some 101, none, .faddr 1 (.tmp 11)⟩,
    ⟨some 102, none, .ld none (.tmp 101)⟩,
    ⟨some 103, none, .faddr 2 (.tmp 11)⟩,
    ⟨some 104, none, .ld none (.tmp 103)⟩,
    ⟨some 105, none, .call 35 .pure [(.tmp 100), (.tmp 102), (.tmp 104)]⟩,
    ⟨some 106, none, .mv (.tmp 15)⟩,
    ⟨some 107, none, .bin .neq (.tmp 105) (.tmp 106)⟩] [] [1, 2, 3, 8, 10, 11, 14, 15, 107])
  (.cond (.tmp 107)
  (.seq
  (.reg [⟨some 6, none, .mv (.val (.bool false))⟩] [] [6])
  (.ret))
  (.skip)))
  (.seq
  (.reg [⟨some 108, none, .mv (.tmp 15)⟩,
    ⟨some 109, none, .bin .eql (.tmp 108) (.val (.int .i64 0))⟩] [] [1, 2, 3, 8, 10, 11, 14, 109])
  (.cond (.tmp 109)
  (.seq
  (.reg [⟨some 110, none, .ld (some 4) (.tmp 14)⟩,
    ⟨none, none, .st 4 (.tmp 3) (.tmp 110)⟩] [] [1, 2, 3, 8, 10, 11])
  (.reg [⟨some 111, none, .mv (.tmp 1)⟩,
    ⟨some 112, none, .faddr 1 (.tmp 11)⟩,
    ⟨some 113, none, .ld none (.tmp 112)⟩,
    ⟨some 114, none, .faddr 2 (.tmp 11)⟩,
    ⟨some 115, none, .ld none (.tmp 114)⟩,
    ⟨some 116, none, .call 42 .pure [(.tmp 111), (.tmp 113), (.tmp 115)]⟩,
    ⟨some 1, none, .mv (.tmp 116)⟩] [] [1, 2, 3, 8, 10, 11]))
  (.skip)))))
  (.seq
  (.reg [⟨some 118, none, .bin .eql (.tmp 66) (.val (.int .i64 2))⟩,
    ⟨some 117, none, .mv (.tmp 118)⟩] [] [1, 2, 3, 8, 10, 11, 66, 117])
  (.cond (.tmp 117)
  (.seq
  (.reg [⟨some 119, none, .faddr 1 (.tmp 11)⟩,
    ⟨some 120, none, .ld none (.tmp 119)⟩,
    ⟨some 121, none, .faddr 2 (.tmp 11)⟩,
    ⟨some 122, none, .ld none (.tmp 121)⟩,
    ⟨some 123, none, .faddr 3 (.tmp 11)⟩,
    ⟨some 124, none, .ld none (.tmp 123)⟩,
    ⟨some 125, none, .faddr 4 (.tmp 11)⟩,
    ⟨some 126, none, .ld none (.tmp 125)⟩,
    ⟨some 127, none, .bld [(.int .i64 0), (.int .i64 0), (.int .i64 0), (.int .i64 0)] [(0, 1, (.tmp 120)), (1, 1, (.tmp 122)), (2, 1, (.tmp 124)), (3, 1, (.tmp 126))]⟩,
    ⟨some 16, none, .zer 45 (.agg [(.int .i64 0), (.int .i64 0), (.int .i64 0), (.int .i64 0)])⟩,
    ⟨none, none, .st 4 (.tmp 16) (.tmp 127)⟩] [] [1, 2, 3, 8, 10, 11, 16])
  (.seq
  (.reg [⟨some 129, none, .ld (some 4) (.tmp 3)⟩,
    ⟨some 130, none, .mv (.tmp 1)⟩,
    ⟨some 131, none, .ld (some 4) (.tmp 16)⟩,
    ⟨some 132, none, .call 31 .pure [(.tmp 129), (.tmp 130), (.tmp 131)]⟩,
    ⟨some 128, none, .mv (.tmp 132)⟩,
    ⟨some 133, none, .ext 0 (.tmp 128)⟩,
    ⟨some 134, none, .ext 1 (.tmp 128)⟩,
    ⟨some 17, none, .mv (.tmp 133)⟩,
    ⟨some 18, none, .mv (.tmp 134)⟩] [] [1, 2, 3, 8, 10, 11, 16, 17, 18])
  (.seq
  (.seq
  (.reg [⟨some 135, none, .mv (.tmp 8)⟩,
    ⟨some 136, none, .ld (some 4) (.tmp 16)⟩,
    ⟨some 137, none, .call 36 .pure [(.tmp 135), (.tmp 136)]⟩,
    ⟨some 138, none, .mv (.tmp 18)⟩,
    ⟨some 139, none, .bin .neq (.tmp 137) (.tmp 138)⟩] [] [1, 2, 3, 8, 10, 11, 17, 18, 139])
  (.cond (.tmp 139)
  (.seq
  (.reg [⟨some 6, none, .mv (.val (.bool false))⟩] [] [6])
  (.ret))
  (.skip)))
  (.seq
  (.reg [⟨some 140, none, .mv (.tmp 18)⟩,
    ⟨some 141, none, .bin .eql (.tmp 140) (.val (.int .i64 0))⟩] [] [1, 2, 3, 8, 10, 11, 17, 141])
  (.cond (.tmp 141)
  (.reg [⟨some 142, none, .mv (.tmp 17)⟩,
    ⟨some 1, none, .mv (.tmp 142)⟩] [] [1, 2, 3, 8, 10, 11])
  (.skip))))))
  (.seq
  (.reg [⟨some 144, none, .bin .eql (.tmp 66) (.val (.int .i64 3))⟩,
    ⟨some 143, none, .mv (.tmp 144)⟩] [] [1, 2, 3, 8, 10, 11, 143])
  (.cond (.tmp 143)
  (.seq
  (.reg [⟨some 146, none, .ld (some 4) (.tmp 3)⟩,
    ⟨some 147, none, .mv (.tmp 1)⟩,
    ⟨some 148, none, .faddr 1 (.tmp 11)⟩,
    ⟨some 149, none, .ld none (.tmp 148)⟩,
    ⟨some 150, none, .faddr 2 (.tmp 11)⟩,
    ⟨some 151, none, .ld none (.tmp 150)⟩,
    ⟨some 152, none, .faddr 3 (.tmp 11)⟩,
    ⟨some 153, none, .ld none (.tmp 152)⟩,
    ⟨some 154, none, .call 26 .pure [(.tmp 146), (.tmp 147), (.tmp 149), (.tmp 151), (.tmp 153)]⟩,
    ⟨some 145, none, .mv (.tmp 154)⟩,
    ⟨some 155, none, .ext 0 (.tmp 145)⟩,
    ⟨some 156, none, .ext 1 (.tmp 145)⟩,
    ⟨some 19, none, .mv (.tmp 155)⟩,
    ⟨some 20, none, .mv (.tmp 156)⟩] [] [1, 2, 3, 8, 10, 11, 19, 20])
  (.seq
  (.seq
  (.reg [⟨some 157, none, .mv (.tmp 8)⟩,
    ⟨some 158, none, .faddr 1 (.tmp 11)⟩,
    ⟨some 159, none, .ld none (.tmp 158)⟩,
    ⟨some 160, none, .faddr 2 (.tmp 11)⟩,
    ⟨some 161, none, .ld none (.tmp 160)⟩,
    ⟨some 162, none, .faddr 3 (.tmp 11)⟩,
    ⟨some 163, none, .ld none (.tmp 162)⟩,
    ⟨some 164, none, .call 37 .pure [(.tmp 157), (.tmp 159), (.tmp 161), (.tmp 163)]⟩,
    ⟨some 165, none, .mv (.tmp 20)⟩,
    ⟨some 166, none, .bin .neq (.tmp 164) (.tmp 165)⟩] [] [1, 2, 3, 8, 10, 11, 19, 20, 166])
  (.cond (.tmp 166)
  (.seq
  (.reg [⟨some 6, none, .mv (.val (.bool false))⟩] [] [6])
  (.ret))
  (.skip)))
  (.seq
  (.reg [⟨some 167, none, .mv (.tmp 20)⟩,
    ⟨some 168, none, .bin .eql (.tmp 167) (.val (.int .i64 0))⟩] [] [1, 2, 3, 8, 10, 11, 19, 168])
  (.cond (.tmp 168)
  (.reg [⟨some 169, none, .mv (.tmp 19)⟩,
    ⟨some 1, none, .mv (.tmp 169)⟩] [] [1, 2, 3, 8, 10, 11])
  (.skip)))))
  (.skip)))))))))))
  (.seq
  (.reg [⟨some 171, none, .mv (.tmp 8)⟩,
    ⟨some 172, none, .faddr 1 (.tmp 11)⟩,
    ⟨some 173, none, .ld none (.tmp 172)⟩,
    ⟨some 174, none, .faddr 2 (.tmp 11)⟩,
    ⟨some 175, none, .ld none (.tmp 174)⟩,
    ⟨some 176, none, .call 33 .pure [(.tmp 171), (.tmp 173), (.tmp 175)]⟩,
    ⟨some 170, none, .mv (.tmp 176)⟩,
    ⟨some 177, none, .ext 0 (.tmp 170)⟩,
    ⟨some 178, none, .ext 1 (.tmp 170)⟩,
    ⟨some 21, none, .mv (.tmp 177)⟩,
    ⟨some 22, none, .mv (.tmp 178)⟩] [] [1, 2, 3, 8, 10, 11, 21, 22])
  (.seq
  (.reg [⟨some 180, none, .ld (some 4) (.tmp 3)⟩,
    ⟨some 181, none, .mv (.tmp 1)⟩,
    ⟨some 182, none, .faddr 1 (.tmp 11)⟩,
    ⟨some 183, none, .ld none (.tmp 182)⟩,
    ⟨some 184, none, .faddr 2 (.tmp 11)⟩,
    ⟨some 185, none, .ld none (.tmp 184)⟩,
    ⟨some 186, none, .call 23 .pure [(.tmp 180), (.tmp 181), (.tmp 183), (.tmp 185)]⟩,
    ⟨some 179, none, .mv (.tmp 186)⟩,
    ⟨some 187, none, .ext 0 (.tmp 179)⟩,
    ⟨some 188, none, .ext 1 (.tmp 179)⟩,
    ⟨some 23, none, .mv (.tmp 187)⟩,
    ⟨some 24, none, .mv (.tmp 188)⟩] [] [1, 2, 3, 8, 10, 21, 22, 23, 24])
  (.seq
  (.reg [⟨some 190, none, .ld (some 4) (.tmp 3)⟩,
    ⟨some 191, none, .mv (.tmp 1)⟩,
    ⟨some 192, none, .call 20 .pure [(.tmp 190), (.tmp 191)]⟩,
    ⟨some 189, none, .mv (.tmp 192)⟩,
    ⟨some 193, none, .ext 0 (.tmp 189)⟩,
    ⟨some 194, none, .ext 1 (.tmp 189)⟩,
    ⟨some 25, none, .mv (.tmp 193)⟩,
    ⟨some 26, none, .mv (.tmp 194)⟩] [] [1, 2, 3, 8, 10, 21, 22, 23, 24, 25])
  (.seq
  (.reg [⟨some 195, none, .mv (.tmp 21)⟩,
    ⟨some 196, none, .mv (.tmp 23)⟩,
    ⟨some 197, none, .bin .neq (.tmp 195) (.tmp 196)⟩,
    ⟨some 198, none, .mv (.tmp 197)⟩,
    ⟨some 199, (some (198, false)), .mv (.tmp 22)⟩,
    ⟨some 200, (some (198, false)), .mv (.tmp 24)⟩,
    ⟨some 201, (some (198, false)), .bin .neq (.tmp 199) (.tmp 200)⟩,
    ⟨some 202, none, .pick (.tmp 198) (.val (.bool true)) (.tmp 201)⟩,
    ⟨some 203, none, .mv (.tmp 202)⟩,
    ⟨some 204, (some (203, false)), .mv (.tmp 8)⟩,
    ⟨some 205, (some (203, false)), .call 38 .pure [(.tmp 204)]⟩,
    ⟨some 206, (some (203, false)), .mv (.tmp 25)⟩,
    ⟨some 207, (some (203, false)), .call 22 .pure [(.tmp 205), (.tmp 206)]⟩,
    ⟨some 208, (some (203, false)), .un .not (.tmp 207)⟩,
    ⟨some 209, none, .pick (.tmp 203) (.val (.bool true)) (.tmp 208)⟩] [] [1, 2, 3, 8, 10, 209])
  (.cond (.tmp 209)
  (.seq
  (.reg [⟨some 6, none, .mv (.val (.bool false))⟩] [] [6])
  (.ret))
  (.skip)))))))))
  (.reg [⟨some 59, none, .mv (.tmp 10)⟩,
    ⟨some 60, none, .bin .add (.tmp 59) (.val (.int .i64 1))⟩,
    ⟨some 10, none, .mv (.tmp 60)⟩] [] [1, 2, 3, 8, 10])))))))
  (.seq
  (.reg [⟨some 210, none, .call 17 .pure []⟩,
    ⟨some 6, none, .mv (.tmp 210)⟩] [] [6])
  (.ret))))))))⟩
theorem pf12_ok : fnOk Try.prog 12 pf12 = true := by kernel_rfl

/-- hinterland/hinterlandlaw07.BlockBeyond -/
def pf13 : PFn := ⟨40, 3, [.tmp 6], .seq
  (.reg [⟨some 3, none, .boxp 25 (.tmp 0)⟩,
    ⟨some 5, none, .boxp 48 (.tmp 2)⟩,
    ⟨some 6, none, .mv (.val (.bool false))⟩] [] [1, 3, 5])
  (.seq
  (.seq
  (.reg [⟨some 11, none, .ld (some 4) (.tmp 3)⟩,
    ⟨some 12, none, .mv (.tmp 1)⟩,
    ⟨some 13, none, .call 16 .pure [(.tmp 11), (.tmp 12)]⟩] [] [1, 3, 5, 13])
  (.cond (.tmp 13)
  (.seq
  (.reg [⟨some 14, none, .call 17 .pure []⟩,
    ⟨some 6, none, .mv (.tmp 14)⟩] [] [6])
  (.ret))
  (.skip)))
  (.seq
  (.reg [⟨some 16, none, .ld (some 4) (.tmp 3)⟩,
    ⟨some 17, none, .mv (.tmp 1)⟩,
    ⟨some 18, none, .ld (some 3) (.tmp 5)⟩,
    ⟨some 19, none, .call 43 .pure [(.tmp 16), (.tmp 17), (.tmp 18)]⟩,
    ⟨some 15, none, .mv (.tmp 19)⟩,
    ⟨some 20, none, .ext 0 (.tmp 15)⟩,
    ⟨some 21, none, .ext 1 (.tmp 15)⟩,
    ⟨some 7, none, .mv (.tmp 20)⟩,
    ⟨some 8, none, .mv (.tmp 21)⟩] [] [1, 3, 5, 7, 8])
  (.seq
  (.reg [⟨some 23, none, .ld (some 4) (.tmp 3)⟩,
    ⟨some 24, none, .mv (.tmp 1)⟩,
    ⟨some 25, none, .ld (some 3) (.tmp 5)⟩,
    ⟨some 26, none, .call 44 .pure [(.tmp 23), (.tmp 24), (.tmp 25)]⟩,
    ⟨some 22, none, .mv (.tmp 26)⟩,
    ⟨some 27, none, .ext 0 (.tmp 22)⟩,
    ⟨some 28, none, .ext 1 (.tmp 22)⟩,
    ⟨some 9, none, .mv (.tmp 27)⟩,
    ⟨some 10, none, .mv (.tmp 28)⟩] [] [7, 8, 9, 10])
  (.seq
  (.reg [⟨some 29, none, .mv (.tmp 10)⟩,
    ⟨some 30, none, .mv (.tmp 8)⟩,
    ⟨some 31, none, .bin .eql (.tmp 29) (.tmp 30)⟩,
    ⟨some 32, none, .mv (.tmp 31)⟩,
    ⟨some 33, (some (32, true)), .mv (.tmp 9)⟩,
    ⟨some 34, (some (32, true)), .mv (.tmp 7)⟩,
    ⟨some 35, (some (32, true)), .call 45 .pure [(.tmp 33), (.tmp 34)]⟩,
    ⟨some 36, none, .pick (.tmp 32) (.tmp 35) (.val (.bool false))⟩,
    ⟨some 37, none, .mv (.tmp 36)⟩,
    ⟨some 38, (some (37, true)), .call 17 .pure []⟩,
    ⟨some 39, none, .pick (.tmp 37) (.tmp 38) (.val (.bool false))⟩,
    ⟨some 6, none, .mv (.tmp 39)⟩] [] [6])
  (.ret)))))⟩
theorem pf13_ok : fnOk Try.prog 13 pf13 = true := by kernel_rfl

/-- hinterland/hinterlandlaw07.BlockShows -/
def pf14 : PFn := ⟨45, 3, [.tmp 6], .seq
  (.reg [⟨some 3, none, .boxp 25 (.tmp 0)⟩,
    ⟨some 6, none, .mv (.val (.bool false))⟩] [] [1, 2, 3])
  (.seq
  (.seq
  (.reg [⟨some 11, none, .ld (some 4) (.tmp 3)⟩,
    ⟨some 12, none, .mv (.tmp 1)⟩,
    ⟨some 13, none, .call 16 .pure [(.tmp 11), (.tmp 12)]⟩,
    ⟨some 14, none, .mv (.tmp 13)⟩,
    ⟨some 15, (some (14, false)), .mv (.tmp 2)⟩,
    ⟨some 16, (some (14, false)), .len (.tmp 15)⟩,
    ⟨some 17, (some (14, false)), .bin .gtr (.tmp 16) (.val (.int .i64 300))⟩,
    ⟨some 18, none, .pick (.tmp 14) (.val (.bool true)) (.tmp 17)⟩] [] [1, 2, 3, 18])
  (.cond (.tmp 18)
  (.seq
  (.reg [⟨some 19, none, .call 17 .pure []⟩,
    ⟨some 6, none, .mv (.tmp 19)⟩] [] [6])
  (.ret))
  (.skip)))
  (.seq
  (.reg [⟨some 21, none, .ld (some 4) (.tmp 3)⟩,
    ⟨some 22, none, .mv (.tmp 1)⟩,
    ⟨some 23, none, .mv (.tmp 2)⟩,
    ⟨some 24, none, .call 46 .pure [(.tmp 21), (.tmp 22), (.tmp 23)]⟩,
    ⟨some 20, none, .mv (.tmp 24)⟩,
    ⟨some 25, none, .ext 0 (.tmp 20)⟩,
    ⟨some 26, none, .ext 1 (.tmp 20)⟩,
    ⟨some 7, none, .mv (.tmp 25)⟩,
    ⟨some 8, none, .mv (.tmp 26)⟩] [] [1, 2, 3, 7, 8])
  (.seq
  (.reg [⟨some 28, none, .ld (some 4) (.tmp 3)⟩,
    ⟨some 29, none, .mv (.tmp 1)⟩,
    ⟨some 30, none, .mv (.tmp 2)⟩,
    ⟨some 31, none, .call 47 .pure [(.tmp 28), (.tmp 29), (.tmp 30)]⟩,
    ⟨some 27, none, .mv (.tmp 31)⟩,
    ⟨some 32, none, .ext 0 (.tmp 27)⟩,
    ⟨some 33, none, .ext 1 (.tmp 27)⟩,
    ⟨some 9, none, .mv (.tmp 32)⟩,
    ⟨some 10, none, .mv (.tmp 33)⟩] [] [7, 8, 9, 10])
  (.seq
  (.reg [⟨some 34, none, .mv (.tmp 10)⟩,
    ⟨some 35, none, .mv (.tmp 8)⟩,
    ⟨some 36, none, .bin .eql (.tmp 34) (.tmp 35)⟩,
    ⟨some 37, none, .mv (.tmp 36)⟩,
    ⟨some 38, (some (37, true)), .mv (.tmp 9)⟩,
    ⟨some 39, (some (37, true)), .mv (.tmp 7)⟩,
    ⟨some 40, (some (37, true)), .call 48 .pure [(.tmp 38), (.tmp 39)]⟩,
    ⟨some 41, none, .pick (.tmp 37) (.tmp 40) (.val (.bool false))⟩,
    ⟨some 42, none, .mv (.tmp 41)⟩,
    ⟨some 43, (some (42, true)), .call 17 .pure []⟩,
    ⟨some 44, none, .pick (.tmp 42) (.tmp 43) (.val (.bool false))⟩,
    ⟨some 6, none, .mv (.tmp 44)⟩] [] [6])
  (.ret)))))⟩
theorem pf14_ok : fnOk Try.prog 14 pf14 = true := by kernel_rfl

/-- hinterland/hinterlandlaw07.BlockShowsLess -/
def pf15 : PFn := ⟨74, 4, [.tmp 8], .seq
  (.reg [⟨some 4, none, .boxp 25 (.tmp 0)⟩,
    ⟨some 8, none, .mv (.val (.bool false))⟩] [] [1, 2, 3, 4])
  (.seq
  (.seq
  (.reg [⟨some 14, none, .ld (some 4) (.tmp 4)⟩,
    ⟨some 15, none, .mv (.tmp 1)⟩,
    ⟨some 16, none, .call 16 .pure [(.tmp 14), (.tmp 15)]⟩,
    ⟨some 17, none, .mv (.tmp 16)⟩,
    ⟨some 18, (some (17, false)), .mv (.tmp 2)⟩,
    ⟨some 19, (some (17, false)), .len (.tmp 18)⟩,
    ⟨some 20, (some (17, false)), .bin .gtr (.tmp 19) (.val (.int .i64 300))⟩,
    ⟨some 21, none, .pick (.tmp 17) (.val (.bool true)) (.tmp 20)⟩,
    ⟨some 22, none, .mv (.tmp 21)⟩,
    ⟨some 23, (some (22, false)), .mv (.tmp 3)⟩,
    ⟨some 24, (some (22, false)), .len (.tmp 23)⟩,
    ⟨some 25, (some (22, false)), .bin .gtr (.tmp 24) (.val (.int .i64 300))⟩,
    ⟨some 26, none, .pick (.tmp 22) (.val (.bool true)) (.tmp 25)⟩] [] [1, 2, 3, 4, 26])
  (.cond (.tmp 26)
  (.seq
  (.reg [⟨some 27, none, .call 17 .pure []⟩,
    ⟨some 8, none, .mv (.tmp 27)⟩] [] [8])
  (.ret))
  (.skip)))
  (.seq
  (.reg [⟨some 29, none, .ld (some 4) (.tmp 4)⟩,
    ⟨some 30, none, .mv (.tmp 1)⟩,
    ⟨some 31, none, .mv (.tmp 2)⟩,
    ⟨some 32, none, .call 47 .pure [(.tmp 29), (.tmp 30), (.tmp 31)]⟩,
    ⟨some 28, none, .mv (.tmp 32)⟩,
    ⟨some 33, none, .ext 0 (.tmp 28)⟩,
    ⟨some 34, none, .ext 1 (.tmp 28)⟩,
    ⟨some 9, none, .mv (.tmp 33)⟩,
    ⟨some 10, none, .mv (.tmp 34)⟩] [] [1, 2, 3, 4, 9, 10])
  (.seq
  (.reg [⟨some 36, none, .ld (some 4) (.tmp 4)⟩,
    ⟨some 37, none, .mv (.tmp 1)⟩,
    ⟨some 38, none, .bsl 0 1 [(.int .i64 0)] []⟩,
    ⟨some 39, none, .mv (.tmp 2)⟩,
    ⟨some 40, none, .app 3 1 8 (.tmp 38) (.tmp 39)⟩,
    ⟨some 41, none, .mv (.tmp 3)⟩,
    ⟨some 42, none, .app 3 1 8 (.tmp 40) (.tmp 41)⟩,
    ⟨some 43, none, .call 47 .pure [(.tmp 36), (.tmp 37), (.tmp 42)]⟩,
    ⟨some 35, none, .mv (.tmp 43)⟩,
    ⟨some 44, none, .ext 0 (.tmp 35)⟩,
    ⟨some 45, none, .ext 1 (.tmp 35)⟩,
    ⟨some 11, none, .mv (.tmp 44)⟩,
    ⟨some 12, none, .mv (.tmp 45)⟩] [(0, 4), (0, 5), (0, 6), (0, 7)] [9, 10, 11, 12])
  (.seq
  (.seq
  (.reg [⟨some 46, none, .mv (.tmp 10)⟩,
    ⟨some 47, none, .mv (.tmp 12)⟩,
    ⟨some 48, none, .bin .neq (.tmp 46) (.tmp 47)⟩,
    ⟨some 49, none, .mv (.tmp 48)⟩,
    ⟨some 50, (some (49, false)), .mv (.tmp 9)⟩,
    ⟨some 51, (some (49, false)), .len (.tmp 50)⟩,
    ⟨some 52, (some (49, false)), .mv (.tmp 11)⟩,
    ⟨some 53, (some (49, false)), .len (.tmp 52)⟩,
    ⟨some 54, (some (49, false)), .bin .neq (.tmp 51) (.tmp 53)⟩,
    ⟨some 55, none, .pick (.tmp 49) (.val (.bool true)) (.tmp 54)⟩] [] [9, 11, 55])
  (.cond (.tmp 55)
  (.seq
  (.reg [⟨some 8, none, .mv (.val (.bool false))⟩] [] [8])
  (.ret))
  (.skip)))
  (.seq
  (.seq
  (.reg [⟨some 13, none, .mv (.val (.int .i64 0))⟩] [] [9, 11, 13])
  (.blk 0 (.loop (.seq
  (.seq
  (.reg [⟨some 56, none, .mv (.tmp 13)⟩,
    ⟨some 57, none, .mv (.tmp 9)⟩,
    ⟨some 58, none, .len (.tmp 57)⟩,
    ⟨some 59, none, .bin .lss (.tmp 56) (.tmp 58)⟩] [] [9, 11, 13, 59])
  (.cond (.tmp 59)
  (.skip)
  (.ext 0)))
  (.seq
  (.blk 1 (.seq
  (.reg [⟨some 62, none, .mv (.tmp 11)⟩,
    ⟨some 63, none, .mv (.tmp 13)⟩,
    ⟨some 64, none, .iaS 1 (.tmp 62) (.tmp 63)⟩,
    ⟨some 65, none, .ld none (.tmp 64)⟩,
    ⟨some 66, none, .mv (.tmp 65)⟩,
    ⟨some 67, (some (66, true)), .mv (.tmp 9)⟩,
    ⟨some 68, (some (66, true)), .mv (.tmp 13)⟩,
    ⟨some 69, (some (66, true)), .iaS 1 (.tmp 67) (.tmp 68)⟩,
    ⟨some 70, (some (66, true)), .ld none (.tmp 69)⟩,
    ⟨some 71, (some (66, true)), .un .not (.tmp 70)⟩,
    ⟨some 72, none, .pick (.tmp 66) (.tmp 71) (.val (.bool false))⟩] [] [9, 11, 13, 72])
  (.cond (.tmp 72)
  (.seq
  (.reg [⟨some 8, none, .mv (.val (.bool false))⟩] [] [8])
  (.ret))
  (.skip))))
  (.reg [⟨some 60, none, .mv (.tmp 13)⟩,
    ⟨some 61, none, .bin .add (.tmp 60) (.val (.int .i64 1))⟩,
    ⟨some 13, none, .mv (.tmp 61)⟩] [] [9, 11, 13]))))))
  (.seq
  (.reg [⟨some 73, none, .call 17 .pure []⟩,
    ⟨some 8, none, .mv (.tmp 73)⟩] [] [8])
  (.ret)))))))⟩
theorem pf15_ok : fnOk Try.prog 15 pf15 = true := by kernel_rfl

/-- hinterland/hinterlandlaw07.far -/
def pf16 : PFn := ⟨20, 2, [.tmp 4], .seq
  (.reg [⟨some 2, none, .boxp 25 (.tmp 0)⟩,
    ⟨some 4, none, .mv (.val (.bool false))⟩] [] [1, 2])
  (.seq
  (.reg [⟨some 5, none, .faddr 2 (.tmp 2)⟩,
    ⟨some 6, none, .ld none (.tmp 5)⟩,
    ⟨some 7, none, .len (.tmp 6)⟩,
    ⟨some 8, none, .bin .gtr (.tmp 7) (.val (.int .i64 1100))⟩,
    ⟨some 9, none, .mv (.tmp 8)⟩,
    ⟨some 10, (some (9, false)), .faddr 3 (.tmp 2)⟩,
    ⟨some 11, (some (9, false)), .ld none (.tmp 10)⟩,
    ⟨some 12, (some (9, false)), .len (.tmp 11)⟩,
    ⟨some 13, (some (9, false)), .bin .gtr (.tmp 12) (.val (.int .i64 1100))⟩,
    ⟨some 14, none, .pick (.tmp 9) (.val (.bool true)) (.tmp 13)⟩,
    ⟨some 15, none, .mv (.tmp 14)⟩,
    ⟨some 16, (some (15, false)), .mv (.tmp 1)⟩,
    ⟨some 17, (some (15, false)), .len (.tmp 16)⟩,
    ⟨some 18, (some (15, false)), .bin .gtr (.tmp 17) (.val (.int .i64 400))⟩,
    ⟨some 19, none, .pick (.tmp 15) (.val (.bool true)) (.tmp 18)⟩,
    ⟨some 4, none, .mv (.tmp 19)⟩] [] [4])
  (.ret))⟩
theorem pf16_ok : fnOk Try.prog 16 pf16 = true := by kernel_rfl

/-- hinterland/hinterlandlaw07.known -/
def pf17 : PFn := ⟨43, 0, [.tmp 0], .seq
  (.reg [⟨some 0, none, .mv (.val (.bool false))⟩] [] [])
  (.seq
  (.reg [⟨some 6, none, .mks 3 1 8 [(.int .i64 0)] (.val (.int .i64 16)) (.val (.int .i64 16))⟩,
    ⟨some 7, none, .mks 4 1 1 [(.bool false)] (.val (.int .i64 16)) (.val (.int .i64 16))⟩,
    ⟨some 8, none, .bld [(.int .i64 0), (.int .i64 0), (.list .nil 1 []), (.list .nil 1 [])] [(0, 1, (.val (.int .i64 4))), (1, 1, (.val (.int .i64 4))), (2, 1, (.tmp 6)), (3, 1, (.tmp 7))]⟩,
    ⟨some 1, none, .zer 25 (.agg [(.int .i64 0), (.int .i64 0), (.list .nil 1 []), (.list .nil 1 [])])⟩,
    ⟨none, none, .st 4 (.tmp 1) (.tmp 8)⟩] [] [1])
  (.seq
  (.reg [⟨some 9, none, .faddr 2 (.tmp 1)⟩,
    ⟨some 10, none, .ld none (.tmp 9)⟩,
    ⟨some 11, none, .iaS 1 (.tmp 10) (.val (.int .i64 0))⟩,
    ⟨none, none, .st 1 (.tmp 11) (.val (.int .i64 1))⟩] [] [1])
  (.seq
  (.reg [⟨some 12, none, .faddr 2 (.tmp 1)⟩,
    ⟨some 13, none, .ld none (.tmp 12)⟩,
    ⟨some 14, none, .iaS 1 (.tmp 13) (.val (.int .i64 1))⟩,
    ⟨none, none, .st 1 (.tmp 14) (.val (.int .i64 1))⟩] [] [1])
  (.seq
  (.reg [⟨some 16, none, .ld (some 4) (.tmp 1)⟩,
    ⟨some 17, none, .call 21 .pure [(.tmp 16), (.val (.list .nil 4 []))]⟩,
    ⟨some 15, none, .mv (.tmp 17)⟩,
    ⟨some 18, none, .ext 0 (.tmp 15)⟩,
    ⟨some 19, none, .ext 1 (.tmp 15)⟩,
    ⟨some 2, none, .mv (.tmp 18)⟩,
    ⟨some 3, none, .mv (.tmp 19)⟩] [] [1, 2, 3])
  (.seq
  (.reg [⟨some 21, none, .ld (some 4) (.tmp 1)⟩,
    ⟨some 22, none, .bld [(.int .i64 0), (.int .i64 0), (.int .i64 0), (.int .i64 0)] [(0, 1, (.val (.int .i64 0))), (1, 1, (.val (.int .i64 0))), (2, 1, (.val (.int .i64 0)))]⟩,
    ⟨some 23, none, .bsl 1 4 [(.int .i64 0), (.int .i64 0), (.int .i64 0), (.int .i64 0)] [(0, 4, (.tmp 22))]⟩,
    ⟨some 24, none, .call 21 .pure [(.tmp 21), (.tmp 23)]⟩,
    ⟨some 20, none, .mv (.tmp 24)⟩,
    ⟨some 25, none, .ext 0 (.tmp 20)⟩,
    ⟨some 26, none, .ext 1 (.tmp 20)⟩,
    ⟨some 4, none, .mv (.tmp 25)⟩,
    ⟨some 5, none, .mv (.tmp 26)⟩] [] [2, 3, 4, 5])
  (.seq
  (.reg [⟨some 27, none, .mv (.tmp 2)⟩,
    ⟨some 28, none, .len (.tmp 27)⟩,
    ⟨some 29, none, .bin .eql (.tmp 28) (.val (.int .i64 1))⟩,
    ⟨some 30, none, .mv (.tmp 29)⟩,
    ⟨some 31, (some (30, true)), .mv (.tmp 4)⟩,
    ⟨some 32, (some (30, true)), .len (.tmp 31)⟩,
    ⟨some 33, (some (30, true)), .bin .eql (.tmp 32) (.val (.int .i64 2))⟩,
    ⟨some 34, none, .pick (.tmp 30) (.tmp 33) (.val (.bool false))⟩,
    ⟨some 35, none, .mv (.tmp 34)⟩,
    ⟨some 36, (some (35, true)), .mv (.tmp 3)⟩,
    ⟨some 37, (some (35, true)), .bin .eql (.tmp 36) (.val (.int .i64 0))⟩,
    ⟨some 38, none, .pick (.tmp 35) (.tmp 37) (.val (.bool false))⟩,
    ⟨some 39, none, .mv (.tmp 38)⟩,
    ⟨some 40, (some (39, true)), .mv (.tmp 5)⟩,
    ⟨some 41, (some (39, true)), .bin .eql (.tmp 40) (.val (.int .i64 0))⟩,
    ⟨some 42, none, .pick (.tmp 39) (.tmp 41) (.val (.bool false))⟩,
    ⟨some 0, none, .mv (.tmp 42)⟩] [] [0])
  (.ret)))))))⟩
theorem pf17_ok : fnOk Try.prog 17 pf17 = true := by kernel_rfl

/-- hinterland/hinterlandref07.Validate -/
def pf18 : PFn := ⟨86, 2, [.tmp 4], .seq
  (.reg [⟨some 2, none, .boxp 25 (.tmp 0)⟩,
    ⟨some 4, none, .mv (.val (.int .i64 0))⟩] [] [1, 2])
  (.seq
  (.seq
  (.reg [⟨some 8, none, .ld (some 4) (.tmp 2)⟩,
    ⟨some 9, none, .call 49 .pure [(.tmp 8)]⟩,
    ⟨some 5, none, .mv (.tmp 9)⟩] [] [1, 2, 5])
  (.seq
  (.reg [⟨some 10, none, .mv (.tmp 5)⟩,
    ⟨some 11, none, .bin .neq (.tmp 10) (.val (.int .i64 0))⟩] [] [1, 2, 5, 11])
  (.cond (.tmp 11)
  (.seq
  (.reg [⟨some 12, none, .mv (.tmp 5)⟩,
    ⟨some 4, none, .mv (.tmp 12)⟩] [] [4])
  (.ret))
  (.skip))))
  (.seq
  (.seq
  (.reg [⟨some 13, none, .mv (.tmp 1)⟩,
    ⟨some 14, none, .len (.tmp 13)⟩,
    ⟨some 15, none, .bin .gtr (.tmp 14) (.val (.int .i64 300))⟩] [] [1, 2, 15])
  (.cond (.tmp 15)
  (.seq
  (.reg [⟨some 4, none, .mv (.val (.int .i64 1))⟩] [] [4])
  (.ret))
  (.skip)))
  (.seq
  (.seq
  (.reg [⟨some 6, none, .mv (.val (.int .i64 0))⟩] [] [1, 2, 6])
  (.blk 0 (.loop (.seq
  (.seq
  (.reg [⟨some 16, none, .mv (.tmp 6)⟩,
    ⟨some 17, none, .mv (.tmp 1)⟩,
    ⟨some 18, none, .len (.tmp 17)⟩,
    ⟨some 19, none, .bin .lss (.tmp 16) (.tmp 18)⟩] [] [1, 2, 6, 19])
  (.cond (.tmp 19)
  (.skip)
  (.ext 0)))
  (.seq
  (.blk 1 (.seq
  (.reg [⟨some 22, none, .mv (.tmp 1)⟩,
    ⟨some 23, none, .mv (.tmp 6)⟩,
    ⟨some 24, none, .iaS 4 (.tmp 22) (.tmp 23)⟩,
    ⟨some 25, none, .faddr 3 (.tmp 24)⟩,
    ⟨some 26, none, .ld none (.tmp 25)⟩,
    ⟨some 27, none, .bin .lss (.tmp 26) (.val (.int .i64 0))⟩,
    ⟨some 28, none, .mv (.tmp 27)⟩,
    ⟨some 29, (some (28, false)), .mv (.tmp 1)⟩,
    ⟨some 30, (some (28, false)), .mv (.tmp 6)⟩,
    ⟨some 31, (some (28, false)), .iaS 4 (.tmp 29) (.tmp 30)⟩,
    ⟨some 32, (some (28, false)), .faddr 3 (.tmp 31)⟩,
    ⟨some 33, (some (28, false)), .ld none (.tmp 32)⟩,
    ⟨some 34, (some (28, false)), .bin .gtr (.tmp 33) (.val (.int .i64 5))⟩,
    ⟨some 35, none, .pick (.tmp 28) (.val (.bool true)) (.tmp 34)⟩,
    ⟨some 36, none, .mv (.tmp 35)⟩,
    ⟨some 37, (some (36, false)), .mv (.tmp 6)⟩,
    ⟨some 38, (some (36, false)), .bin .gtr (.tmp 37) (.val (.int .i64 0))⟩,
    ⟨some 39, (some (36, false)), .mv (.tmp 38)⟩,
    ⟨some 40, (some (39, true)), .mv (.tmp 1)⟩,
    ⟨some 41, (some (39, true)), .mv (.tmp 6)⟩,
    ⟨some 42, (some (39, true)), .bin .sub (.tmp 41) (.val (.int .i64 1))⟩,
    ⟨some 43, (some (39, true)), .iaS 4 (.tmp 40) (.tmp 42)⟩,
    ⟨some 44, (some (39, true)), .ld (some 4) (.tmp 43)⟩,
    ⟨some 45, (some (39, true)), .mv (.tmp 1)⟩,
    ⟨some 46, (some (39, true)), .mv (.tmp 6)⟩,
    ⟨some 47, (some (39, true)), .iaS 4 (.tmp 45) (.tmp 46)⟩,
    ⟨some 48, (some (39, true)), .ld (some 4) (.tmp 47)⟩,
    ⟨some 49, (some (39, true)), .call 50 .pure [(.tmp 44), (.tmp 48)]⟩,
    ⟨some 50, (some (39, true)), .un .not (.tmp 49)⟩,
    ⟨some 51, (some (36, false)), .pick (.tmp 39) (.tmp 50) (.val (.bool false))⟩,
    ⟨some 52, none, .pick (.tmp 36) (.val (.bool true)) (.tmp 51)⟩] [] [1, 2, 6, 52])
  (.cond (.tmp 52)
  (.seq
  (.reg [⟨some 4, none, .mv (.val (.int .i64 1))⟩] [] [4])
  (.ret))
  (.skip))))
  (.reg [⟨some 20, none, .mv (.tmp 6)⟩,
    ⟨some 21, none, .bin .add (.tmp 20) (.val (.int .i64 1))⟩,
    ⟨some 6, none, .mv (.tmp 21)⟩] [] [1, 2, 6]))))))
  (.seq
  (.seq
  (.reg [⟨some 7, none, .mv (.val (.int .i64 0))⟩] [] [1, 2, 7])
  (.blk 2 (.loop (.seq
  (.seq
  (.reg [⟨some 53, none, .mv (.tmp 7)⟩,
    ⟨some 54, none, .mv (.tmp 1)⟩,
    ⟨some 55, none, .len (.tmp 54)⟩,
    ⟨some 56, none, .bin .lss (.tmp 53) (.tmp 55)⟩] [] [1, 2, 7, 56])
  (.cond (.tmp 56)
  (.skip)
  (.ext 2)))
  (.seq
  (.blk 3 (.seq
  (.reg [⟨some 59, none, .ld (some 4) (.tmp 2)⟩,
    ⟨some 60, none, .mv (.tmp 1)⟩,
    ⟨some 61, none, .mv (.tmp 7)⟩,
    ⟨some 62, none, .iaS 4 (.tmp 60) (.tmp 61)⟩,
    ⟨some 63, none, .faddr 0 (.tmp 62)⟩,
    ⟨some 64, none, .ld none (.tmp 63)⟩,
    ⟨some 65, none, .mv (.tmp 1)⟩,
    ⟨some 66, none, .mv (.tmp 7)⟩,
    ⟨some 67, none, .iaS 4 (.tmp 65) (.tmp 66)⟩,
    ⟨some 68, none, .faddr 1 (.tmp 67)⟩,
    ⟨some 69, none, .ld none (.tmp 68)⟩,
    ⟨some 70, none, .call 25 .pure [(.tmp 59), (.tmp 64), (.tmp 69)]⟩,
    ⟨some 71, none, .un .not (.tmp 70)⟩,
    ⟨some 72, none, .mv (.tmp 71)⟩,
    ⟨some 73, (some (72, false)), .mv (.tmp 1)⟩,
    ⟨some 74, (some (72, false)), .mv (.tmp 7)⟩,
    ⟨some 75, (some (72, false)), .iaS 4 (.tmp 73) (.tmp 74)⟩,
    ⟨some 76, (some (72, false)), .faddr 1 (.tmp 75)⟩,
    ⟨some 77, (some (72, false)), .ld none (.tmp 76)⟩,
    ⟨some 78, (some (72, false)), .mv (.tmp 1)⟩,
    ⟨some 79, (some (72, false)), .mv (.tmp 7)⟩,
    ⟨some 80, (some (72, false)), .iaS 4 (.tmp 78) (.tmp 79)⟩,
    ⟨some 81, (some (72, false)), .faddr 2 (.tmp 80)⟩,
    ⟨some 82, (some (72, false)), .ld none (.tmp 81)⟩,
    ⟨some 83, (some (72, false)), .call 51 .pure [(.tmp 77), (.tmp 82)]⟩,
    ⟨some 84, (some (72, false)), .un .not (.tmp 83)⟩,
    ⟨some 85, none, .pick (.tmp 72) (.val (.bool true)) (.tmp 84)⟩] [] [1, 2, 7, 85])
  (.cond (.tmp 85)
  (.seq
  (.reg [⟨some 4, none, .mv (.val (.int .i64 2))⟩] [] [4])
  (.ret))
  (.skip))))
  (.reg [⟨some 57, none, .mv (.tmp 7)⟩,
    ⟨some 58, none, .bin .add (.tmp 57) (.val (.int .i64 1))⟩,
    ⟨some 7, none, .mv (.tmp 58)⟩] [] [1, 2, 7]))))))
  (.seq
  (.reg [⟨some 4, none, .mv (.val (.int .i64 0))⟩] [] [4])
  (.ret))))))⟩
theorem pf18_ok : fnOk Try.prog 18 pf18 = true := by kernel_rfl

/-- hinterland/block.Validate -/
def pf19 : PFn := ⟨70, 2, [.tmp 4], .seq
  (.reg [⟨some 2, none, .boxp 25 (.tmp 0)⟩,
    ⟨some 4, none, .mv (.val (.int .i64 0))⟩] [] [1, 2])
  (.seq
  (.seq
  (.reg [⟨some 10, none, .ld (some 4) (.tmp 2)⟩,
    ⟨some 11, none, .call 52 .pure [(.tmp 10)]⟩,
    ⟨some 5, none, .mv (.tmp 11)⟩] [] [1, 2, 5])
  (.seq
  (.reg [⟨some 12, none, .mv (.tmp 5)⟩,
    ⟨some 13, none, .bin .neq (.tmp 12) (.val (.int .i64 0))⟩] [] [1, 2, 5, 13])
  (.cond (.tmp 13)
  (.seq
  (.reg [⟨some 14, none, .mv (.tmp 5)⟩,
    ⟨some 4, none, .mv (.tmp 14)⟩] [] [4])
  (.ret))
  (.skip))))
  (.seq
  (.seq
  (.reg [⟨some 15, none, .mv (.tmp 1)⟩,
    ⟨some 16, none, .len (.tmp 15)⟩,
    ⟨some 17, none, .mv (.val (.int .i64 0))⟩] [] [1, 2, 15, 16, 17])
  (.blk 0 (.loop (.trim (.seq
  (.reg [⟨some 18, none, .bin .lss (.tmp 17) (.tmp 16)⟩] [] [1, 2, 15, 16, 17, 18])
  (.seq
  (.cond (.tmp 18)
  (.skip)
  (.ext 0))
  (.seq
  (.blk 1 (.seq
  (.reg [⟨some 19, none, .mv (.tmp 17)⟩,
    ⟨some 20, none, .iaS 4 (.tmp 15) (.tmp 17)⟩,
    ⟨some 21, none, .ld (some 4) (.tmp 20)⟩,
    ⟨some 7, none, .zer 45 (.agg [(.int .i64 0), (.int .i64 0), (.int .i64 0), (.int .i64 0)])⟩,
    ⟨some 6, none, .mv (.tmp 19)⟩,
    ⟨none, none, .st 4 (.tmp 7) (.tmp 21)⟩] [] [1, 2, 6, 7, 15, 16, 17])
  (.seq
  (.reg [⟨some 22, none, .faddr 3 (.tmp 7)⟩,
    ⟨some 23, none, .ld none (.tmp 22)⟩,
    ⟨some 24, none, .bin .lss (.tmp 23) (.val (.int .i64 0))⟩,
    ⟨some 25, none, .mv (.tmp 24)⟩,
    ⟨some 26, (some (25, false)), .faddr 3 (.tmp 7)⟩,
    ⟨some 27, (some (25, false)), .ld none (.tmp 26)⟩,
    ⟨some 28, (some (25, false)), .bin .geq (.tmp 27) (.val (.int .i64 6))⟩,
    ⟨some 29, none, .pick (.tmp 25) (.val (.bool true)) (.tmp 28)⟩,
    ⟨some 30, none, .mv (.tmp 29)⟩,
    ⟨some 31, (some (30, false)), .mv (.tmp 6)⟩,
    ⟨some 32, (some (30, false)), .bin .gtr (.tmp 31) (.val (.int .i64 0))⟩,
    ⟨some 33, (some (30, false)), .mv (.tmp 32)⟩,
    ⟨some 34, (some (33, true)), .mv (.tmp 1)⟩,
    ⟨some 35, (some (33, true)), .mv (.tmp 6)⟩,
    ⟨some 36, (some (33, true)), .bin .sub (.tmp 35) (.val (.int .i64 1))⟩,
    ⟨some 37, (some (33, true)), .iaS 4 (.tmp 34) (.tmp 36)⟩,
    ⟨some 38, (some (33, true)), .ld (some 4) (.tmp 37)⟩,
    ⟨some 39, (some (33, true)), .ld (some 4) (.tmp 7)⟩,
    ⟨some 40, (some (33, true)), .call 53 .pure [(.tmp 38), (.tmp 39)]⟩,
    ⟨some 41, (some (33, true)), .bin .geq (.tmp 40) (.val (.int .i64 0))⟩,
    ⟨some 42, (some (30, false)), .pick (.tmp 33) (.tmp 41) (.val (.bool false))⟩,
    ⟨some 43, none, .pick (.tmp 30) (.val (.bool true)) (.tmp 42)⟩] [] [1, 2, 15, 16, 17, 43])
  (.cond (.tmp 43)
  (.seq
  (.reg [⟨some 4, none, .mv (.val (.int .i64 1))⟩] [] [4])
  (.ret))
  (.skip)))))
  (.reg [⟨some 44, none, .bin .add (.tmp 17) (.val (.int .i64 1))⟩,
    ⟨some 17, none, .mv (.tmp 44)⟩] [] [1, 2, 15, 16, 17]))))))))
  (.seq
  (.seq
  (.reg [⟨some 45, none, .mv (.tmp 1)⟩,
    ⟨some 46, none, .len (.tmp 45)⟩,
    ⟨some 47, none, .bin .gtr (.tmp 46) (.val (.int .i64 300))⟩] [] [1, 2, 47])
  (.cond (.tmp 47)
  (.seq
  (.reg [⟨some 4, none, .mv (.val (.int .i64 1))⟩] [] [4])
  (.ret))
  (.skip)))
  (.seq
  (.seq
  (.reg [⟨some 48, none, .mv (.tmp 1)⟩,
    ⟨some 49, none, .len (.tmp 48)⟩,
    ⟨some 50, none, .mv (.val (.int .i64 0))⟩] [] [2, 48, 49, 50])
  (.blk 2 (.loop (.trim (.seq
  (.reg [⟨some 51, none, .bin .lss (.tmp 50) (.tmp 49)⟩] [] [2, 48, 49, 50, 51])
  (.seq
  (.cond (.tmp 51)
  (.skip)
  (.ext 2))
  (.seq
  (.blk 3 (.seq
  (.reg [⟨some 52, none, .iaS 4 (.tmp 48) (.tmp 50)⟩,
    ⟨some 53, none, .ld (some 4) (.tmp 52)⟩,
    ⟨some 9, none, .zer 45 (.agg [(.int .i64 0), (.int .i64 0), (.int .i64 0), (.int .i64 0)])⟩,
    ⟨none, none, .st 4 (.tmp 9) (.tmp 53)⟩] [] [2, 9, 48, 49, 50])
  (.seq
  (.reg [⟨some 54, none, .ld (some 4) (.tmp 2)⟩,
    ⟨some 55, none, .faddr 0 (.tmp 9)⟩,
    ⟨some 56, none, .ld none (.tmp 55)⟩,
    ⟨some 57, none, .faddr 1 (.tmp 9)⟩,
    ⟨some 58, none, .ld none (.tmp 57)⟩,
    ⟨some 59, none, .call 54 .pure [(.tmp 54), (.tmp 56), (.tmp 58)]⟩,
    ⟨some 60, none, .un .not (.tmp 59)⟩,
    ⟨some 61, none, .mv (.tmp 60)⟩,
    ⟨some 62, (some (61, false)), .faddr 1 (.tmp 9)⟩,
    ⟨some 63, (some (61, false)), .ld none (.tmp 62)⟩,
    ⟨some 64, (some (61, false)), .faddr 2 (.tmp 9)⟩,
    ⟨some 65, (some (61, false)), .ld none (.tmp 64)⟩,
    ⟨some 66, (some (61, false)), .call 55 .pure [(.tmp 63), (.tmp 65)]⟩,
    ⟨some 67, (some (61, false)), .un .not (.tmp 66)⟩,
    ⟨some 68, none, .pick (.tmp 61) (.val (.bool true)) (.tmp 67)⟩] [] [2, 48, 49, 50, 68])
  (.cond (.tmp 68)
  (.seq
  (.reg [⟨some 4, none, .mv (.val (.int .i64 2))⟩] [] [4])
  (.ret))
  (.skip)))))
  (.reg [⟨some 69, none, .bin .add (.tmp 50) (.val (.int .i64 1))⟩,
    ⟨some 50, none, .mv (.tmp 69)⟩] [] [2, 48, 49, 50]))))))))
  (.seq
  (.reg [⟨some 4, none, .mv (.val (.int .i64 0))⟩] [] [4])
  (.ret))))))⟩
theorem pf19_ok : fnOk Try.prog 19 pf19 = true := by kernel_rfl

/-- hinterland/hinterlandref07.Blocks -/
def pf20 : PFn := ⟨86, 2, [.tmp 4, .tmp 5], .seq
  (.reg [⟨some 2, none, .boxp 25 (.tmp 0)⟩,
    ⟨some 4, none, .mv (.val (.list .nil 1 []))⟩,
    ⟨some 5, none, .mv (.val (.int .i64 0))⟩] [] [1, 2])
  (.seq
  (.seq
  (.reg [⟨some 13, none, .ld (some 4) (.tmp 2)⟩,
    ⟨some 14, none, .mv (.tmp 1)⟩,
    ⟨some 15, none, .call 18 .pure [(.tmp 13), (.tmp 14)]⟩,
    ⟨some 6, none, .mv (.tmp 15)⟩] [] [1, 2, 6])
  (.seq
  (.reg [⟨some 16, none, .mv (.tmp 6)⟩,
    ⟨some 17, none, .bin .neq (.tmp 16) (.val (.int .i64 0))⟩] [] [1, 2, 6, 17])
  (.cond (.tmp 17)
  (.seq
  (.reg [⟨some 18, none, .mv (.tmp 6)⟩,
    ⟨some 4, none, .mv (.val (.list .nil 1 []))⟩,
    ⟨some 5, none, .mv (.tmp 18)⟩] [] [4, 5])
  (.ret))
  (.skip))))
  (.seq
  (.reg [⟨some 19, none, .ld (some 4) (.tmp 2)⟩,
    ⟨some 20, none, .mv (.tmp 1)⟩,
    ⟨some 21, none, .call 56 .pure [(.tmp 19), (.tmp 20)]⟩,
    ⟨some 7, none, .mv (.tmp 21)⟩] [] [7])
  (.seq
  (.reg [⟨some 8, none, .nacc 39 2⟩] [] [7, 8])
  (.seq
  (.reg [⟨some 22, none, .mv (.tmp 7)⟩,
    ⟨some 23, none, .len (.tmp 22)⟩,
    ⟨some 24, none, .mks 3 1 8 [(.int .i64 0)] (.tmp 23) (.tmp 23)⟩,
    ⟨some 9, none, .mv (.tmp 24)⟩] [] [7, 8, 9])
  (.seq
  (.seq
  (.reg [⟨some 10, none, .mv (.val (.int .i64 0))⟩] [] [7, 8, 9, 10])
  (.blk 0 (.loop (.seq
  (.seq
  (.reg [⟨some 25, none, .mv (.tmp 10)⟩,
    ⟨some 26, none, .mv (.tmp 7)⟩,
    ⟨some 27, none, .len (.tmp 26)⟩,
    ⟨some 28, none, .bin .lss (.tmp 25) (.tmp 27)⟩] [] [7, 8, 9, 10, 28])
  (.cond (.tmp 28)
  (.skip)
  (.ext 0)))
  (.seq
  (.blk 1 (.seq
  (.seq
  (.reg [⟨some 31, none, .mv (.tmp 7)⟩,
    ⟨some 32, none, .mv (.tmp 10)⟩,
    ⟨some 33, none, .iaS 1 (.tmp 31) (.tmp 32)⟩,
    ⟨some 34, none, .ld none (.tmp 33)⟩,
    ⟨some 35, none, .bin .lss (.tmp 34) (.val (.int .i64 0))⟩] [] [7, 8, 9, 10, 35])
  (.cond (.tmp 35)
  (.ext 1)
  (.skip)))
  (.seq
  (.reg [⟨some 36, none, .mv (.tmp 7)⟩,
    ⟨some 37, none, .mv (.tmp 10)⟩,
    ⟨some 38, none, .iaS 1 (.tmp 36) (.tmp 37)⟩,
    ⟨some 39, none, .ld none (.tmp 38)⟩,
    ⟨some 40, none, .bin .quo (.tmp 39) (.val (.int .i64 8))⟩,
    ⟨some 41, none, .bin .mul (.tmp 40) (.val (.int .i64 6))⟩,
    ⟨some 42, none, .mv (.tmp 7)⟩,
    ⟨some 43, none, .mv (.tmp 10)⟩,
    ⟨some 44, none, .iaS 1 (.tmp 42) (.tmp 43)⟩,
    ⟨some 45, none, .ld none (.tmp 44)⟩,
    ⟨some 46, none, .bin .rem (.tmp 45) (.val (.int .i64 8))⟩,
    ⟨some 47, none, .bin .add (.tmp 41) (.tmp 46)⟩,
    ⟨some 11, none, .mv (.tmp 47)⟩] [] [7, 8, 9, 10, 11])
  (.seq
  (.seq
  (.reg [⟨some 48, none, .mv (.tmp 11)⟩,
    ⟨some 49, none, .mv (.tmp 10)⟩,
    ⟨some 50, none, .bin .eql (.tmp 48) (.tmp 49)⟩] [] [7, 8, 9, 10, 11, 50])
  (.cond (.tmp 50)
  (.seq
  (.reg [⟨some 51, none, .mv (.tmp 9)⟩,
    ⟨some 52, none, .mv (.tmp 10)⟩,
    ⟨some 53, none, .mv (.tmp 8)⟩,
    ⟨some 54, none, .len (.tmp 53)⟩,
    ⟨some 55, none, .iaS 1 (.tmp 51) (.tmp 52)⟩,
    ⟨none, none, .st 1 (.tmp 55) (.tmp 54)⟩] [] [7, 8, 9, 10, 11])
  (.reg [⟨some 56, none, .mv (.tmp 8)⟩,
    ⟨some 57, none, .mv (.tmp 7)⟩,
    ⟨some 58, none, .mv (.tmp 10)⟩,
    ⟨some 59, none, .iaS 1 (.tmp 57) (.tmp 58)⟩,
    ⟨some 60, none, .ld none (.tmp 59)⟩,
    ⟨some 61, none, .bld [(.int .i64 0), (.list .nil 1 [])] [(0, 1, (.tmp 60))]⟩,
    ⟨some 62, none, .bsl 1 2 [(.int .i64 0), (.list .nil 1 [])] [(0, 2, (.tmp 61))]⟩,
    ⟨some 63, none, .app 39 2 32 (.tmp 56) (.tmp 62)⟩,
    ⟨some 8, none, .mv (.tmp 63)⟩] [] [7, 8, 9, 10, 11]))
  (.skip)))
  (.seq
  (.reg [⟨some 64, none, .mv (.tmp 9)⟩,
    ⟨some 65, none, .mv (.tmp 11)⟩,
    ⟨some 66, none, .iaS 1 (.tmp 64) (.tmp 65)⟩,
    ⟨some 67, none, .ld none (.tmp 66)⟩,
    ⟨some 12, none, .mv (.tmp 67)⟩] [] [7, 8, 9, 10, 12])
  (.reg [⟨some 68, none, .mv (.tmp 8)⟩,
    ⟨some 69, none, .mv (.tmp 12)⟩,
    ⟨some 70, none, .mv (.tmp 8)⟩,
    ⟨some 71, none, .mv (.tmp 12)⟩,
    ⟨some 72, none, .iaS 2 (.tmp 70) (.tmp 71)⟩,
    ⟨some 73, none, .faddr 1 (.tmp 72)⟩,
    ⟨some 74, none, .ld none (.tmp 73)⟩,
    ⟨some 75, none, .mv (.tmp 10)⟩,
    ⟨some 76, none, .bin .quo (.tmp 75) (.val (.int .i64 6))⟩,
    ⟨some 77, none, .bin .mul (.tmp 76) (.val (.int .i64 8))⟩,
    ⟨some 78, none, .mv (.tmp 10)⟩,
    ⟨some 79, none, .bin .rem (.tmp 78) (.val (.int .i64 6))⟩,
    ⟨some 80, none, .bin .add (.tmp 77) (.tmp 79)⟩,
    ⟨some 81, none, .bsl 1 1 [(.int .i64 0)] [(0, 1, (.tmp 80))]⟩,
    ⟨some 82, none, .app 3 1 8 (.tmp 74) (.tmp 81)⟩,
    ⟨some 83, none, .iaS 2 (.tmp 68) (.tmp 69)⟩,
    ⟨some 84, none, .faddr 1 (.tmp 83)⟩,
    ⟨none, none, .st 1 (.tmp 84) (.tmp 82)⟩] [] [7, 8, 9, 10]))))))
  (.reg [⟨some 29, none, .mv (.tmp 10)⟩,
    ⟨some 30, none, .bin .add (.tmp 29) (.val (.int .i64 1))⟩,
    ⟨some 10, none, .mv (.tmp 30)⟩] [] [7, 8, 9, 10]))))))
  (.seq
  (.reg [⟨some 85, none, .mv (.tmp 8)⟩,
    ⟨some 4, none, .mv (.tmp 85)⟩,
    ⟨some 5, none, .mv (.val (.int .i64 0))⟩] [] [4, 5])
  (.ret)))))))⟩
theorem pf20_ok : fnOk Try.prog 20 pf20 = true := by kernel_rfl

/-- hinterland/block.Blocks -/
def pf21 : PFn := ⟨17, 2, [.tmp 4, .tmp 5], .seq
  (.reg [⟨some 2, none, .boxp 25 (.tmp 0)⟩,
    ⟨some 4, none, .mv (.val (.list .nil 1 []))⟩,
    ⟨some 5, none, .mv (.val (.int .i64 0))⟩] [] [1, 2])
  (.seq
  (.seq
  (.reg [⟨some 7, none, .ld (some 4) (.tmp 2)⟩,
    ⟨some 8, none, .mv (.tmp 1)⟩,
    ⟨some 9, none, .call 19 .pure [(.tmp 7), (.tmp 8)]⟩,
    ⟨some 6, none, .mv (.tmp 9)⟩] [] [1, 2, 6])
  (.seq
  (.reg [⟨some 10, none, .mv (.tmp 6)⟩,
    ⟨some 11, none, .bin .neq (.tmp 10) (.val (.int .i64 0))⟩] [] [1, 2, 6, 11])
  (.cond (.tmp 11)
  (.seq
  (.reg [⟨some 12, none, .mv (.tmp 6)⟩,
    ⟨some 4, none, .mv (.val (.list .nil 1 []))⟩,
    ⟨some 5, none, .mv (.tmp 12)⟩] [] [4, 5])
  (.ret))
  (.skip))))
  (.seq
  (.reg [⟨some 13, none, .ld (some 4) (.tmp 2)⟩,
    ⟨some 14, none, .mv (.tmp 1)⟩,
    ⟨some 15, none, .call 58 .pure [(.tmp 13), (.tmp 14)]⟩,
    ⟨some 16, none, .call 57 .pure [(.tmp 15)]⟩,
    ⟨some 4, none, .mv (.tmp 16)⟩,
    ⟨some 5, none, .mv (.val (.int .i64 0))⟩] [] [4, 5])
  (.ret)))⟩
theorem pf21_ok : fnOk Try.prog 21 pf21 = true := by kernel_rfl

/-- hinterland/hinterlandsame.Parts -/
def pf22 : PFn := ⟨42, 2, [.tmp 4], .seq
  (.reg [⟨some 4, none, .mv (.val (.bool false))⟩] [] [0, 1])
  (.seq
  (.seq
  (.reg [⟨some 6, none, .mv (.tmp 0)⟩,
    ⟨some 7, none, .len (.tmp 6)⟩,
    ⟨some 8, none, .mv (.tmp 1)⟩,
    ⟨some 9, none, .len (.tmp 8)⟩,
    ⟨some 10, none, .bin .neq (.tmp 7) (.tmp 9)⟩] [] [0, 1, 10])
  (.cond (.tmp 10)
  (.seq
  (.reg [⟨some 4, none, .mv (.val (.bool false))⟩] [] [4])
  (.ret))
  (.skip)))
  (.seq
  (.seq
  (.reg [⟨some 5, none, .mv (.val (.int .i64 0))⟩] [] [0, 1, 5])
  (.blk 0 (.loop (.seq
  (.seq
  (.reg [⟨some 11, none, .mv (.tmp 5)⟩,
    ⟨some 12, none, .mv (.tmp 0)⟩,
    ⟨some 13, none, .len (.tmp 12)⟩,
    ⟨some 14, none, .bin .lss (.tmp 11) (.tmp 13)⟩] [] [0, 1, 5, 14])
  (.cond (.tmp 14)
  (.skip)
  (.ext 0)))
  (.seq
  (.blk 1 (.seq
  (.reg [⟨some 17, none, .mv (.tmp 0)⟩,
    ⟨some 18, none, .mv (.tmp 5)⟩,
    ⟨some 19, none, .iaS 2 (.tmp 17) (.tmp 18)⟩,
    ⟨some 20, none, .faddr 0 (.tmp 19)⟩,
    ⟨some 21, none, .ld none (.tmp 20)⟩,
    ⟨some 22, none, .mv (.tmp 1)⟩,
    ⟨some 23, none, .mv (.tmp 5)⟩,
    ⟨some 24, none, .iaS 2 (.tmp 22) (.tmp 23)⟩,
    ⟨some 25, none, .faddr 0 (.tmp 24)⟩,
    ⟨some 26, none, .ld none (.tmp 25)⟩,
    ⟨some 27, none, .bin .neq (.tmp 21) (.tmp 26)⟩,
    ⟨some 28, none, .mv (.tmp 27)⟩,
    ⟨some 29, (some (28, false)), .mv (.tmp 0)⟩,
    ⟨some 30, (some (28, false)), .mv (.tmp 5)⟩,
    ⟨some 31, (some (28, false)), .iaS 2 (.tmp 29) (.tmp 30)⟩,
    ⟨some 32, (some (28, false)), .faddr 1 (.tmp 31)⟩,
    ⟨some 33, (some (28, false)), .ld none (.tmp 32)⟩,
    ⟨some 34, (some (28, false)), .mv (.tmp 1)⟩,
    ⟨some 35, (some (28, false)), .mv (.tmp 5)⟩,
    ⟨some 36, (some (28, false)), .iaS 2 (.tmp 34) (.tmp 35)⟩,
    ⟨some 37, (some (28, false)), .faddr 1 (.tmp 36)⟩,
    ⟨some 38, (some (28, false)), .ld none (.tmp 37)⟩,
    ⟨some 39, (some (28, false)), .call 45 .pure [(.tmp 33), (.tmp 38)]⟩,
    ⟨some 40, (some (28, false)), .un .not (.tmp 39)⟩,
    ⟨some 41, none, .pick (.tmp 28) (.val (.bool true)) (.tmp 40)⟩] [] [0, 1, 5, 41])
  (.cond (.tmp 41)
  (.seq
  (.reg [⟨some 4, none, .mv (.val (.bool false))⟩] [] [4])
  (.ret))
  (.skip))))
  (.reg [⟨some 15, none, .mv (.tmp 5)⟩,
    ⟨some 16, none, .bin .add (.tmp 15) (.val (.int .i64 1))⟩,
    ⟨some 5, none, .mv (.tmp 16)⟩] [] [0, 1, 5]))))))
  (.seq
  (.reg [⟨some 4, none, .mv (.val (.bool true))⟩] [] [4])
  (.ret))))⟩
theorem pf22_ok : fnOk Try.prog 22 pf22 = true := by kernel_rfl

/-- hinterland/hinterlandref07.Of -/
def pf23 : PFn := ⟨31, 4, [.tmp 8, .tmp 9], .seq
  (.reg [⟨some 4, none, .boxp 25 (.tmp 0)⟩,
    ⟨some 8, none, .mv (.val (.int .i64 0))⟩,
    ⟨some 9, none, .mv (.val (.int .i64 0))⟩] [] [1, 2, 3, 4])
  (.seq
  (.seq
  (.reg [⟨some 11, none, .ld (some 4) (.tmp 4)⟩,
    ⟨some 12, none, .mv (.tmp 1)⟩,
    ⟨some 13, none, .call 18 .pure [(.tmp 11), (.tmp 12)]⟩,
    ⟨some 10, none, .mv (.tmp 13)⟩] [] [1, 2, 3, 4, 10])
  (.seq
  (.reg [⟨some 14, none, .mv (.tmp 10)⟩,
    ⟨some 15, none, .bin .neq (.tmp 14) (.val (.int .i64 0))⟩] [] [1, 2, 3, 4, 10, 15])
  (.cond (.tmp 15)
  (.seq
  (.reg [⟨some 16, none, .mv (.tmp 10)⟩,
    ⟨some 8, none, .mv (.val (.int .i64 0))⟩,
    ⟨some 9, none, .mv (.tmp 16)⟩] [] [8, 9])
  (.ret))
  (.skip))))
  (.seq
  (.seq
  (.reg [⟨some 17, none, .ld (some 4) (.tmp 4)⟩,
    ⟨some 18, none, .mv (.tmp 2)⟩,
    ⟨some 19, none, .mv (.tmp 3)⟩,
    ⟨some 20, none, .call 25 .pure [(.tmp 17), (.tmp 18), (.tmp 19)]⟩,
    ⟨some 21, none, .un .not (.tmp 20)⟩] [] [1, 2, 3, 4, 21])
  (.cond (.tmp 21)
  (.seq
  (.reg [⟨some 8, none, .mv (.val (.int .i64 0))⟩,
    ⟨some 9, none, .mv (.val (.int .i64 2))⟩] [] [8, 9])
  (.ret))
  (.skip)))
  (.seq
  (.reg [⟨some 22, none, .ld (some 4) (.tmp 4)⟩,
    ⟨some 23, none, .mv (.tmp 1)⟩,
    ⟨some 24, none, .call 56 .pure [(.tmp 22), (.tmp 23)]⟩,
    ⟨some 25, none, .mv (.tmp 2)⟩,
    ⟨some 26, none, .bin .mul (.tmp 25) (.val (.int .i64 6))⟩,
    ⟨some 27, none, .mv (.tmp 3)⟩,
    ⟨some 28, none, .bin .add (.tmp 26) (.tmp 27)⟩,
    ⟨some 29, none, .iaS 1 (.tmp 24) (.tmp 28)⟩,
    ⟨some 30, none, .ld none (.tmp 29)⟩,
    ⟨some 8, none, .mv (.tmp 30)⟩,
    ⟨some 9, none, .mv (.val (.int .i64 0))⟩] [] [8, 9])
  (.ret))))⟩
theorem pf23_ok : fnOk Try.prog 23 pf23 = true := by kernel_rfl

/-- hinterland/block.Of -/
def pf24 : PFn := ⟨30, 4, [.tmp 8, .tmp 9], .seq
  (.reg [⟨some 4, none, .boxp 25 (.tmp 0)⟩,
    ⟨some 8, none, .mv (.val (.int .i64 0))⟩,
    ⟨some 9, none, .mv (.val (.int .i64 0))⟩] [] [1, 2, 3, 4])
  (.seq
  (.seq
  (.reg [⟨some 11, none, .ld (some 4) (.tmp 4)⟩,
    ⟨some 12, none, .mv (.tmp 1)⟩,
    ⟨some 13, none, .call 19 .pure [(.tmp 11), (.tmp 12)]⟩,
    ⟨some 10, none, .mv (.tmp 13)⟩] [] [1, 2, 3, 4, 10])
  (.seq
  (.reg [⟨some 14, none, .mv (.tmp 10)⟩,
    ⟨some 15, none, .bin .neq (.tmp 14) (.val (.int .i64 0))⟩] [] [1, 2, 3, 4, 10, 15])
  (.cond (.tmp 15)
  (.seq
  (.reg [⟨some 16, none, .mv (.tmp 10)⟩,
    ⟨some 8, none, .mv (.val (.int .i64 0))⟩,
    ⟨some 9, none, .mv (.tmp 16)⟩] [] [8, 9])
  (.ret))
  (.skip))))
  (.seq
  (.seq
  (.reg [⟨some 17, none, .ld (some 4) (.tmp 4)⟩,
    ⟨some 18, none, .mv (.tmp 2)⟩,
    ⟨some 19, none, .mv (.tmp 3)⟩,
    ⟨some 20, none, .call 54 .pure [(.tmp 17), (.tmp 18), (.tmp 19)]⟩,
    ⟨some 21, none, .un .not (.tmp 20)⟩] [] [1, 2, 3, 4, 21])
  (.cond (.tmp 21)
  (.seq
  (.reg [⟨some 8, none, .mv (.val (.int .i64 0))⟩,
    ⟨some 9, none, .mv (.val (.int .i64 2))⟩] [] [8, 9])
  (.ret))
  (.skip)))
  (.seq
  (.reg [⟨some 22, none, .ld (some 4) (.tmp 4)⟩,
    ⟨some 23, none, .mv (.tmp 1)⟩,
    ⟨some 24, none, .call 58 .pure [(.tmp 22), (.tmp 23)]⟩,
    ⟨some 25, none, .mv (.tmp 2)⟩,
    ⟨some 26, none, .mv (.tmp 3)⟩,
    ⟨some 27, none, .call 59 .pure [(.tmp 25), (.tmp 26)]⟩,
    ⟨some 28, none, .iaS 1 (.tmp 24) (.tmp 27)⟩,
    ⟨some 29, none, .ld none (.tmp 28)⟩,
    ⟨some 8, none, .mv (.tmp 29)⟩,
    ⟨some 9, none, .mv (.val (.int .i64 0))⟩] [] [8, 9])
  (.ret))))⟩
theorem pf24_ok : fnOk Try.prog 24 pf24 = true := by kernel_rfl

/-- hinterland/hinterlandref03.Lies -/
def pf25 : PFn := ⟨35, 3, [.tmp 6], .seq
  (.reg [⟨some 3, none, .boxp 25 (.tmp 0)⟩,
    ⟨some 6, none, .mv (.val (.bool false))⟩] [] [1, 2, 3])
  (.seq
  (.reg [⟨some 7, none, .mv (.tmp 1)⟩,
    ⟨some 8, none, .bin .geq (.tmp 7) (.val (.int .i64 0))⟩,
    ⟨some 9, none, .mv (.tmp 8)⟩,
    ⟨some 10, (some (9, true)), .mv (.tmp 1)⟩,
    ⟨some 11, (some (9, true)), .faddr 2 (.tmp 3)⟩,
    ⟨some 12, (some (9, true)), .ld none (.tmp 11)⟩,
    ⟨some 13, (some (9, true)), .len (.tmp 12)⟩,
    ⟨some 14, (some (9, true)), .bin .lss (.tmp 10) (.tmp 13)⟩,
    ⟨some 15, none, .pick (.tmp 9) (.tmp 14) (.val (.bool false))⟩,
    ⟨some 16, none, .mv (.tmp 15)⟩,
    ⟨some 17, (some (16, true)), .mv (.tmp 2)⟩,
    ⟨some 18, (some (16, true)), .bin .geq (.tmp 17) (.val (.int .i64 0))⟩,
    ⟨some 19, none, .pick (.tmp 16) (.tmp 18) (.val (.bool false))⟩,
    ⟨some 20, none, .mv (.tmp 19)⟩,
    ⟨some 21, (some (20, true)), .mv (.tmp 2)⟩,
    ⟨some 22, (some (20, true)), .bin .lss (.tmp 21) (.val (.int .i64 6))⟩,
    ⟨some 23, none, .pick (.tmp 20) (.tmp 22) (.val (.bool false))⟩,
    ⟨some 24, none, .mv (.tmp 23)⟩,
    ⟨some 25, (some (24, true)), .faddr 2 (.tmp 3)⟩,
    ⟨some 26, (some (24, true)), .ld none (.tmp 25)⟩,
    ⟨some 27, (some (24, true)), .mv (.tmp 1)⟩,
    ⟨some 28, (some (24, true)), .iaS 1 (.tmp 26) (.tmp 27)⟩,
    ⟨some 29, (some (24, true)), .ld none (.tmp 28)⟩,
    ⟨some 30, (some (24, true)), .mv (.tmp 2)⟩,
    ⟨some 31, (some (24, true)), .bin .shr (.tmp 29) (.tmp 30)⟩,
    ⟨some 32, (some (24, true)), .bin .and (.tmp 31) (.val (.int .i64 1))⟩,
    ⟨some 33, (some (24, true)), .bin .eql (.tmp 32) (.val (.int .i64 1))⟩,
    ⟨some 34, none, .pick (.tmp 24) (.tmp 33) (.val (.bool false))⟩,
    ⟨some 6, none, .mv (.tmp 34)⟩] [] [6])
  (.ret))⟩
theorem pf25_ok : fnOk Try.prog 25 pf25 = true := by kernel_rfl

/-- hinterland/hinterlandref07.Take -/
def pf26 : PFn := ⟨39, 5, [.tmp 10, .tmp 11], .seq
  (.reg [⟨some 5, none, .boxp 25 (.tmp 0)⟩,
    ⟨some 10, none, .mv (.val (.list .nil 1 []))⟩,
    ⟨some 11, none, .mv (.val (.int .i64 0))⟩] [] [1, 2, 3, 4, 5])
  (.seq
  (.seq
  (.reg [⟨some 15, none, .ld (some 4) (.tmp 5)⟩,
    ⟨some 16, none, .mv (.tmp 1)⟩,
    ⟨some 17, none, .call 18 .pure [(.tmp 15), (.tmp 16)]⟩,
    ⟨some 12, none, .mv (.tmp 17)⟩] [] [1, 2, 3, 4, 12])
  (.seq
  (.reg [⟨some 18, none, .mv (.tmp 12)⟩,
    ⟨some 19, none, .bin .neq (.tmp 18) (.val (.int .i64 0))⟩] [] [1, 2, 3, 4, 12, 19])
  (.cond (.tmp 19)
  (.seq
  (.reg [⟨some 20, none, .mv (.tmp 12)⟩,
    ⟨some 10, none, .mv (.val (.list .nil 1 []))⟩,
    ⟨some 11, none, .mv (.tmp 20)⟩] [] [10, 11])
  (.ret))
  (.skip))))
  (.seq
  (.reg [⟨some 21, none, .mv (.tmp 1)⟩,
    ⟨some 22, none, .mv (.tmp 2)⟩,
    ⟨some 23, none, .mv (.tmp 3)⟩,
    ⟨some 24, none, .mv (.tmp 4)⟩,
    ⟨some 25, none, .call 60 .pure [(.tmp 21), (.tmp 22), (.tmp 23), (.tmp 24)]⟩,
    ⟨some 13, none, .mv (.tmp 25)⟩] [] [1, 13])
  (.seq
  (.seq
  (.reg [⟨some 26, none, .mv (.tmp 13)⟩,
    ⟨some 27, none, .bin .lss (.tmp 26) (.val (.int .i64 0))⟩] [] [1, 13, 27])
  (.cond (.tmp 27)
  (.seq
  (.reg [⟨some 10, none, .mv (.val (.list .nil 1 []))⟩,
    ⟨some 11, none, .mv (.val (.int .i64 2))⟩] [] [10, 11])
  (.ret))
  (.skip)))
  (.seq
  (.reg [⟨some 28, none, .bsl 0 4 [(.int .i64 0), (.int .i64 0), (.int .i64 0), (.int .i64 0)] []⟩,
    ⟨some 29, none, .mv (.tmp 1)⟩,
    ⟨some 30, none, .mv (.tmp 13)⟩,
    ⟨some 31, none, .slc 4 (.tmp 29) none (some (.tmp 30)) none⟩,
    ⟨some 32, none, .app 45 4 32 (.tmp 28) (.tmp 31)⟩,
    ⟨some 14, none, .mv (.tmp 32)⟩] [] [1, 13, 14])
  (.seq
  (.reg [⟨some 33, none, .mv (.tmp 14)⟩,
    ⟨some 34, none, .mv (.tmp 1)⟩,
    ⟨some 35, none, .mv (.tmp 13)⟩,
    ⟨some 36, none, .bin .add (.tmp 35) (.val (.int .i64 1))⟩,
    ⟨some 37, none, .slc 4 (.tmp 34) (some (.tmp 36)) none none⟩,
    ⟨some 38, none, .app 45 4 32 (.tmp 33) (.tmp 37)⟩,
    ⟨some 10, none, .mv (.tmp 38)⟩,
    ⟨some 11, none, .mv (.val (.int .i64 0))⟩] [] [10, 11])
  (.ret))))))⟩
theorem pf26_ok : fnOk Try.prog 26 pf26 = true := by kernel_rfl

/-- hinterland/block.Take -/
def pf27 : PFn := ⟨38, 5, [.tmp 10, .tmp 11], .seq
  (.reg [⟨some 5, none, .boxp 25 (.tmp 0)⟩,
    ⟨some 10, none, .mv (.val (.list .nil 1 []))⟩,
    ⟨some 11, none, .mv (.val (.int .i64 0))⟩] [] [1, 2, 3, 4, 5])
  (.seq
  (.seq
  (.reg [⟨some 15, none, .ld (some 4) (.tmp 5)⟩,
    ⟨some 16, none, .mv (.tmp 1)⟩,
    ⟨some 17, none, .call 19 .pure [(.tmp 15), (.tmp 16)]⟩,
    ⟨some 12, none, .mv (.tmp 17)⟩] [] [1, 2, 3, 4, 12])
  (.seq
  (.reg [⟨some 18, none, .mv (.tmp 12)⟩,
    ⟨some 19, none, .bin .neq (.tmp 18) (.val (.int .i64 0))⟩] [] [1, 2, 3, 4, 12, 19])
  (.cond (.tmp 19)
  (.seq
  (.reg [⟨some 20, none, .mv (.tmp 12)⟩,
    ⟨some 10, none, .mv (.val (.list .nil 1 []))⟩,
    ⟨some 11, none, .mv (.tmp 20)⟩] [] [10, 11])
  (.ret))
  (.skip))))
  (.seq
  (.reg [⟨some 22, none, .mv (.tmp 1)⟩,
    ⟨some 23, none, .mv (.tmp 2)⟩,
    ⟨some 24, none, .mv (.tmp 3)⟩,
    ⟨some 25, none, .mv (.tmp 4)⟩,
    ⟨some 26, none, .bld [(.int .i64 0), (.int .i64 0), (.int .i64 0), (.int .i64 0)] [(0, 1, (.tmp 23)), (1, 1, (.tmp 24)), (2, 1, (.tmp 25))]⟩,
    ⟨some 27, none, .call 61 .pure [(.tmp 22), (.tmp 26)]⟩,
    ⟨some 21, none, .mv (.tmp 27)⟩,
    ⟨some 28, none, .ext 0 (.tmp 21)⟩,
    ⟨some 29, none, .ext 1 (.tmp 21)⟩,
    ⟨some 13, none, .mv (.tmp 28)⟩,
    ⟨some 14, none, .mv (.tmp 29)⟩] [] [1, 13, 14])
  (.seq
  (.seq
  (.reg [⟨some 30, none, .mv (.tmp 14)⟩,
    ⟨some 31, none, .un .not (.tmp 30)⟩] [] [1, 13, 31])
  (.cond (.tmp 31)
  (.seq
  (.reg [⟨some 10, none, .mv (.val (.list .nil 1 []))⟩,
    ⟨some 11, none, .mv (.val (.int .i64 2))⟩] [] [10, 11])
  (.ret))
  (.skip)))
  (.seq
  (.reg [⟨some 32, none, .mv (.tmp 1)⟩,
    ⟨some 33, none, .call 63 .opn [(.tmp 32)]⟩,
    ⟨some 34, none, .mv (.tmp 13)⟩,
    ⟨some 35, none, .mv (.tmp 13)⟩,
    ⟨some 36, none, .bin .add (.tmp 35) (.val (.int .i64 1))⟩,
    ⟨some 37, none, .call 62 .opn [(.tmp 33), (.tmp 34), (.tmp 36)]⟩,
    ⟨some 10, none, .mv (.tmp 37)⟩,
    ⟨some 11, none, .mv (.val (.int .i64 0))⟩] [] [10, 11])
  (.ret)))))⟩
theorem pf27_ok : fnOk Try.prog 27 pf27 = true := by kernel_rfl

/-- hinterland/hinterlandsame.List[hinterland/api.Signal] -/
def pf28 : PFn := ⟨26, 2, [.tmp 4], .seq
  (.reg [⟨some 4, none, .mv (.val (.bool false))⟩] [] [0, 1])
  (.seq
  (.seq
  (.reg [⟨some 6, none, .mv (.tmp 0)⟩,
    ⟨some 7, none, .len (.tmp 6)⟩,
    ⟨some 8, none, .mv (.tmp 1)⟩,
    ⟨some 9, none, .len (.tmp 8)⟩,
    ⟨some 10, none, .bin .neq (.tmp 7) (.tmp 9)⟩] [] [0, 1, 10])
  (.cond (.tmp 10)
  (.seq
  (.reg [⟨some 4, none, .mv (.val (.bool false))⟩] [] [4])
  (.ret))
  (.skip)))
  (.seq
  (.seq
  (.reg [⟨some 5, none, .mv (.val (.int .i64 0))⟩] [] [0, 1, 5])
  (.blk 0 (.loop (.seq
  (.seq
  (.reg [⟨some 11, none, .mv (.tmp 5)⟩,
    ⟨some 12, none, .mv (.tmp 0)⟩,
    ⟨some 13, none, .len (.tmp 12)⟩,
    ⟨some 14, none, .bin .lss (.tmp 11) (.tmp 13)⟩] [] [0, 1, 5, 14])
  (.cond (.tmp 14)
  (.skip)
  (.ext 0)))
  (.seq
  (.blk 1 (.seq
  (.reg [⟨some 17, none, .mv (.tmp 0)⟩,
    ⟨some 18, none, .mv (.tmp 5)⟩,
    ⟨some 19, none, .iaS 4 (.tmp 17) (.tmp 18)⟩,
    ⟨some 20, none, .ld (some 4) (.tmp 19)⟩,
    ⟨some 21, none, .mv (.tmp 1)⟩,
    ⟨some 22, none, .mv (.tmp 5)⟩,
    ⟨some 23, none, .iaS 4 (.tmp 21) (.tmp 22)⟩,
    ⟨some 24, none, .ld (some 4) (.tmp 23)⟩,
    ⟨some 25, none, .eqs true [true, true, true, true] (.tmp 20) (.tmp 24)⟩] [] [0, 1, 5, 25])
  (.cond (.tmp 25)
  (.seq
  (.reg [⟨some 4, none, .mv (.val (.bool false))⟩] [] [4])
  (.ret))
  (.skip))))
  (.reg [⟨some 15, none, .mv (.tmp 5)⟩,
    ⟨some 16, none, .bin .add (.tmp 15) (.val (.int .i64 1))⟩,
    ⟨some 5, none, .mv (.tmp 16)⟩] [] [0, 1, 5]))))))
  (.seq
  (.reg [⟨some 4, none, .mv (.val (.bool true))⟩] [] [4])
  (.ret))))⟩
theorem pf28_ok : fnOk Try.prog 28 pf28 = true := by kernel_rfl

/-- hinterland/hinterlandref07.May -/
def pf29 : PFn := ⟨77, 4, [.tmp 8, .tmp 9], .seq
  (.reg [⟨some 4, none, .boxp 25 (.tmp 0)⟩,
    ⟨some 6, none, .boxp 48 (.tmp 2)⟩,
    ⟨some 7, none, .boxp 48 (.tmp 3)⟩,
    ⟨some 8, none, .mv (.val (.bool false))⟩,
    ⟨some 9, none, .mv (.val (.int .i64 0))⟩] [] [1, 4, 6, 7])
  (.seq
  (.seq
  (.reg [⟨some 16, none, .ld (some 4) (.tmp 4)⟩,
    ⟨some 17, none, .mv (.tmp 1)⟩,
    ⟨some 18, none, .call 18 .pure [(.tmp 16), (.tmp 17)]⟩,
    ⟨some 10, none, .mv (.tmp 18)⟩] [] [1, 4, 6, 7, 10])
  (.seq
  (.reg [⟨some 19, none, .mv (.tmp 10)⟩,
    ⟨some 20, none, .bin .neq (.tmp 19) (.val (.int .i64 0))⟩] [] [1, 4, 6, 7, 10, 20])
  (.cond (.tmp 20)
  (.seq
  (.reg [⟨some 21, none, .mv (.tmp 10)⟩,
    ⟨some 8, none, .mv (.val (.bool false))⟩,
    ⟨some 9, none, .mv (.tmp 21)⟩] [] [8, 9])
  (.ret))
  (.skip))))
  (.seq
  (.reg [⟨some 23, none, .ld (some 4) (.tmp 4)⟩,
    ⟨some 24, none, .ld (some 3) (.tmp 6)⟩,
    ⟨some 25, none, .call 64 .pure [(.tmp 23), (.tmp 24)]⟩,
    ⟨some 22, none, .mv (.tmp 25)⟩,
    ⟨some 26, none, .ext 0 (.tmp 22)⟩,
    ⟨some 27, none, .ext 1 (.tmp 22)⟩,
    ⟨some 11, none, .mv (.tmp 26)⟩,
    ⟨some 12, none, .mv (.tmp 27)⟩] [] [1, 6, 7, 11, 12])
  (.seq
  (.seq
  (.reg [⟨some 28, none, .mv (.tmp 12)⟩,
    ⟨some 29, none, .bin .neq (.tmp 28) (.val (.int .i64 0))⟩] [] [1, 6, 7, 11, 12, 29])
  (.cond (.tmp 29)
  (.seq
  (.reg [⟨some 30, none, .mv (.tmp 12)⟩,
    ⟨some 8, none, .mv (.val (.bool false))⟩,
    ⟨some 9, none, .mv (.tmp 30)⟩] [] [8, 9])
  (.ret))
  (.skip)))
  (.seq
  (.reg [⟨some 13, none, .mv (.val (.bool false))⟩] [] [1, 6, 7, 11, 13])
  (.seq
  (.seq
  (.reg [⟨some 14, none, .mv (.val (.int .i64 0))⟩] [] [1, 6, 7, 11, 13, 14])
  (.blk 0 (.loop (.seq
  (.seq
  (.reg [⟨some 31, none, .mv (.tmp 14)⟩,
    ⟨some 32, none, .mv (.tmp 11)⟩,
    ⟨some 33, none, .len (.tmp 32)⟩,
    ⟨some 34, none, .bin .lss (.tmp 31) (.tmp 33)⟩] [] [1, 6, 7, 11, 13, 14, 34])
  (.cond (.tmp 34)
  (.skip)
  (.ext 0)))
  (.seq
  (.blk 1 (.reg [⟨some 37, none, .mv (.tmp 13)⟩,
    ⟨some 38, none, .mv (.tmp 37)⟩,
    ⟨some 39, (some (38, false)), .mv (.tmp 11)⟩,
    ⟨some 40, (some (38, false)), .mv (.tmp 14)⟩,
    ⟨some 41, (some (38, false)), .iaS 3 (.tmp 39) (.tmp 40)⟩,
    ⟨some 42, (some (38, false)), .ld (some 3) (.tmp 41)⟩,
    ⟨some 43, (some (38, false)), .ld (some 3) (.tmp 7)⟩,
    ⟨some 44, (some (38, false)), .eqs false [true, true, true] (.tmp 42) (.tmp 43)⟩,
    ⟨some 45, none, .pick (.tmp 38) (.val (.bool true)) (.tmp 44)⟩,
    ⟨some 13, none, .mv (.tmp 45)⟩] [] [1, 6, 7, 11, 13, 14]))
  (.reg [⟨some 35, none, .mv (.tmp 14)⟩,
    ⟨some 36, none, .bin .add (.tmp 35) (.val (.int .i64 1))⟩,
    ⟨some 14, none, .mv (.tmp 36)⟩] [] [1, 6, 7, 11, 13, 14]))))))
  (.seq
  (.seq
  (.reg [⟨some 46, none, .mv (.tmp 13)⟩,
    ⟨some 47, none, .un .not (.tmp 46)⟩] [] [1, 6, 7, 47])
  (.cond (.tmp 47)
  (.seq
  (.reg [⟨some 8, none, .mv (.val (.bool false))⟩,
    ⟨some 9, none, .mv (.val (.int .i64 8))⟩] [] [8, 9])
  (.ret))
  (.skip)))
  (.seq
  (.seq
  (.reg [⟨some 48, none, .mv (.tmp 1)⟩,
    ⟨some 49, none, .faddr 0 (.tmp 6)⟩,
    ⟨some 50, none, .ld none (.tmp 49)⟩,
    ⟨some 51, none, .faddr 1 (.tmp 6)⟩,
    ⟨some 52, none, .ld none (.tmp 51)⟩,
    ⟨some 53, none, .faddr 2 (.tmp 6)⟩,
    ⟨some 54, none, .ld none (.tmp 53)⟩,
    ⟨some 55, none, .call 60 .pure [(.tmp 48), (.tmp 50), (.tmp 52), (.tmp 54)]⟩,
    ⟨some 56, none, .bin .geq (.tmp 55) (.val (.int .i64 0))⟩] [] [1, 6, 7, 56])
  (.cond (.tmp 56)
  (.seq
  (.reg [⟨some 8, none, .mv (.val (.bool true))⟩,
    ⟨some 9, none, .mv (.val (.int .i64 0))⟩] [] [8, 9])
  (.ret))
  (.skip)))
  (.seq
  (.reg [⟨some 57, none, .mv (.tmp 1)⟩,
    ⟨some 58, none, .faddr 0 (.tmp 7)⟩,
    ⟨some 59, none, .ld none (.tmp 58)⟩,
    ⟨some 60, none, .faddr 1 (.tmp 7)⟩,
    ⟨some 61, none, .ld none (.tmp 60)⟩,
    ⟨some 62, none, .faddr 2 (.tmp 6)⟩,
    ⟨some 63, none, .ld none (.tmp 62)⟩,
    ⟨some 64, none, .bin .add (.tmp 63) (.val (.int .i64 2))⟩,
    ⟨some 65, none, .bin .rem (.tmp 64) (.val (.int .i64 4))⟩,
    ⟨some 66, none, .call 60 .pure [(.tmp 57), (.tmp 59), (.tmp 61), (.tmp 65)]⟩,
    ⟨some 15, none, .mv (.tmp 66)⟩] [] [1, 15])
  (.seq
  (.reg [⟨some 67, none, .mv (.tmp 15)⟩,
    ⟨some 68, none, .bin .lss (.tmp 67) (.val (.int .i64 0))⟩,
    ⟨some 69, none, .mv (.tmp 68)⟩,
    ⟨some 70, (some (69, false)), .mv (.tmp 1)⟩,
    ⟨some 71, (some (69, false)), .mv (.tmp 15)⟩,
    ⟨some 72, (some (69, false)), .iaS 4 (.tmp 70) (.tmp 71)⟩,
    ⟨some 73, (some (69, false)), .faddr 3 (.tmp 72)⟩,
    ⟨some 74, (some (69, false)), .ld none (.tmp 73)⟩,
    ⟨some 75, (some (69, false)), .bin .eql (.tmp 74) (.val (.int .i64 4))⟩,
    ⟨some 76, none, .pick (.tmp 69) (.val (.bool true)) (.tmp 75)⟩,
    ⟨some 8, none, .mv (.tmp 76)⟩,
    ⟨some 9, none, .mv (.val (.int .i64 0))⟩] [] [8, 9])
  (.ret))))))))))⟩
theorem pf29_ok : fnOk Try.prog 29 pf29 = true := by kernel_rfl

/-- hinterland/block.May -/
def pf30 : PFn := ⟨77, 4, [.tmp 8, .tmp 9], .seq
  (.reg [⟨some 4, none, .boxp 25 (.tmp 0)⟩,
    ⟨some 6, none, .boxp 48 (.tmp 2)⟩,
    ⟨some 7, none, .boxp 48 (.tmp 3)⟩,
    ⟨some 8, none, .mv (.val (.bool false))⟩,
    ⟨some 9, none, .mv (.val (.int .i64 0))⟩] [] [1, 4, 6, 7])
  (.seq
  (.seq
  (.reg [⟨some 17, none, .ld (some 4) (.tmp 4)⟩,
    ⟨some 18, none, .mv (.tmp 1)⟩,
    ⟨some 19, none, .call 19 .pure [(.tmp 17), (.tmp 18)]⟩,
    ⟨some 10, none, .mv (.tmp 19)⟩] [] [1, 4, 6, 7, 10])
  (.seq
  (.reg [⟨some 20, none, .mv (.tmp 10)⟩,
    ⟨some 21, none, .bin .neq (.tmp 20) (.val (.int .i64 0))⟩] [] [1, 4, 6, 7, 10, 21])
  (.cond (.tmp 21)
  (.seq
  (.reg [⟨some 22, none, .mv (.tmp 10)⟩,
    ⟨some 8, none, .mv (.val (.bool false))⟩,
    ⟨some 9, none, .mv (.tmp 22)⟩] [] [8, 9])
  (.ret))
  (.skip))))
  (.seq
  (.reg [⟨some 24, none, .ld (some 4) (.tmp 4)⟩,
    ⟨some 25, none, .ld (some 3) (.tmp 6)⟩,
    ⟨some 26, none, .call 65 .pure [(.tmp 24), (.tmp 25)]⟩,
    ⟨some 23, none, .mv (.tmp 26)⟩,
    ⟨some 27, none, .ext 0 (.tmp 23)⟩,
    ⟨some 28, none, .ext 1 (.tmp 23)⟩,
    ⟨some 11, none, .mv (.tmp 27)⟩,
    ⟨some 12, none, .mv (.tmp 28)⟩] [] [1, 6, 7, 11, 12])
  (.seq
  (.blk 0 (.seq
  (.reg [⟨some 30, none, .mv (.tmp 12)⟩,
    ⟨some 31, none, .bin .neq (.tmp 30) (.val (.int .i64 0))⟩,
    ⟨some 29, none, .mv (.tmp 31)⟩] [] [1, 6, 7, 11, 12, 29])
  (.cond (.tmp 29)
  (.seq
  (.reg [⟨some 32, none, .mv (.tmp 12)⟩,
    ⟨some 8, none, .mv (.val (.bool false))⟩,
    ⟨some 9, none, .mv (.tmp 32)⟩] [] [8, 9])
  (.ret))
  (.seq
  (.reg [⟨some 34, none, .mv (.tmp 11)⟩,
    ⟨some 35, none, .ld (some 3) (.tmp 7)⟩,
    ⟨some 36, none, .call 66 .pure [(.tmp 34), (.tmp 35)]⟩,
    ⟨some 37, none, .un .not (.tmp 36)⟩,
    ⟨some 33, none, .mv (.tmp 37)⟩] [] [1, 6, 7, 33])
  (.cond (.tmp 33)
  (.seq
  (.reg [⟨some 8, none, .mv (.val (.bool false))⟩,
    ⟨some 9, none, .mv (.val (.int .i64 8))⟩] [] [8, 9])
  (.ret))
  (.skip))))))
  (.seq
  (.reg [⟨some 39, none, .mv (.tmp 1)⟩,
    ⟨some 40, none, .faddr 0 (.tmp 6)⟩,
    ⟨some 41, none, .ld none (.tmp 40)⟩,
    ⟨some 42, none, .faddr 1 (.tmp 6)⟩,
    ⟨some 43, none, .ld none (.tmp 42)⟩,
    ⟨some 44, none, .faddr 2 (.tmp 6)⟩,
    ⟨some 45, none, .ld none (.tmp 44)⟩,
    ⟨some 46, none, .bld [(.int .i64 0), (.int .i64 0), (.int .i64 0), (.int .i64 0)] [(0, 1, (.tmp 41)), (1, 1, (.tmp 43)), (2, 1, (.tmp 45))]⟩,
    ⟨some 47, none, .call 61 .pure [(.tmp 39), (.tmp 46)]⟩,
    ⟨some 38, none, .mv (.tmp 47)⟩,
    ⟨some 48, none, .ext 0 (.tmp 38)⟩,
    ⟨some 49, none, .ext 1 (.tmp 38)⟩,
    ⟨some 13, none, .mv (.tmp 48)⟩,
    ⟨some 14, none, .mv (.tmp 49)⟩] [] [1, 6, 7, 14])
  (.seq
  (.reg [⟨some 51, none, .mv (.tmp 1)⟩,
    ⟨some 52, none, .faddr 0 (.tmp 7)⟩,
    ⟨some 53, none, .ld none (.tmp 52)⟩,
    ⟨some 54, none, .faddr 1 (.tmp 7)⟩,
    ⟨some 55, none, .ld none (.tmp 54)⟩,
    ⟨some 56, none, .faddr 2 (.tmp 6)⟩,
    ⟨some 57, none, .ld none (.tmp 56)⟩,
    ⟨some 58, none, .bin .add (.tmp 57) (.val (.int .i64 2))⟩,
    ⟨some 59, none, .bin .rem (.tmp 58) (.val (.int .i64 4))⟩,
    ⟨some 60, none, .bld [(.int .i64 0), (.int .i64 0), (.int .i64 0), (.int .i64 0)] [(0, 1, (.tmp 53)), (1, 1, (.tmp 55)), (2, 1, (.tmp 59))]⟩,
    ⟨some 61, none, .call 61 .pure [(.tmp 51), (.tmp 60)]⟩,
    ⟨some 50, none, .mv (.tmp 61)⟩,
    ⟨some 62, none, .ext 0 (.tmp 50)⟩,
    ⟨some 63, none, .ext 1 (.tmp 50)⟩,
    ⟨some 15, none, .mv (.tmp 62)⟩,
    ⟨some 16, none, .mv (.tmp 63)⟩] [] [1, 14, 15, 16])
  (.seq
  (.reg [⟨some 64, none, .mv (.tmp 14)⟩,
    ⟨some 65, none, .mv (.tmp 64)⟩,
    ⟨some 66, (some (65, false)), .mv (.tmp 16)⟩,
    ⟨some 67, (some (65, false)), .un .not (.tmp 66)⟩,
    ⟨some 68, none, .pick (.tmp 65) (.val (.bool true)) (.tmp 67)⟩,
    ⟨some 69, none, .mv (.tmp 68)⟩,
    ⟨some 70, (some (69, false)), .mv (.tmp 1)⟩,
    ⟨some 71, (some (69, false)), .mv (.tmp 15)⟩,
    ⟨some 72, (some (69, false)), .iaS 4 (.tmp 70) (.tmp 71)⟩,
    ⟨some 73, (some (69, false)), .faddr 3 (.tmp 72)⟩,
    ⟨some 74, (some (69, false)), .ld none (.tmp 73)⟩,
    ⟨some 75, (some (69, false)), .bin .eql (.tmp 74) (.val (.int .i64 4))⟩,
    ⟨some 76, none, .pick (.tmp 69) (.val (.bool true)) (.tmp 75)⟩,
    ⟨some 8, none, .mv (.tmp 76)⟩,
    ⟨some 9, none, .mv (.val (.int .i64 0))⟩] [] [8, 9])
  (.ret)))))))⟩
theorem pf30_ok : fnOk Try.prog 30 pf30 = true := by kernel_rfl

/-- hinterland/hinterlandref07.Put -/
def pf31 : PFn := ⟨106, 3, [.tmp 6, .tmp 7], .seq
  (.reg [⟨some 3, none, .boxp 25 (.tmp 0)⟩,
    ⟨some 5, none, .boxp 45 (.tmp 2)⟩,
    ⟨some 6, none, .mv (.val (.list .nil 1 []))⟩,
    ⟨some 7, none, .mv (.val (.int .i64 0))⟩] [] [1, 3, 5])
  (.seq
  (.seq
  (.reg [⟨some 13, none, .ld (some 4) (.tmp 3)⟩,
    ⟨some 14, none, .mv (.tmp 1)⟩,
    ⟨some 15, none, .call 18 .pure [(.tmp 13), (.tmp 14)]⟩,
    ⟨some 8, none, .mv (.tmp 15)⟩] [] [1, 3, 5, 8])
  (.seq
  (.reg [⟨some 16, none, .mv (.tmp 8)⟩,
    ⟨some 17, none, .bin .neq (.tmp 16) (.val (.int .i64 0))⟩] [] [1, 3, 5, 8, 17])
  (.cond (.tmp 17)
  (.seq
  (.reg [⟨some 18, none, .mv (.tmp 8)⟩,
    ⟨some 6, none, .mv (.val (.list .nil 1 []))⟩,
    ⟨some 7, none, .mv (.tmp 18)⟩] [] [6, 7])
  (.ret))
  (.skip))))
  (.seq
  (.seq
  (.reg [⟨some 19, none, .faddr 3 (.tmp 5)⟩,
    ⟨some 20, none, .ld none (.tmp 19)⟩,
    ⟨some 21, none, .bin .lss (.tmp 20) (.val (.int .i64 0))⟩,
    ⟨some 22, none, .mv (.tmp 21)⟩,
    ⟨some 23, (some (22, false)), .faddr 3 (.tmp 5)⟩,
    ⟨some 24, (some (22, false)), .ld none (.tmp 23)⟩,
    ⟨some 25, (some (22, false)), .bin .gtr (.tmp 24) (.val (.int .i64 5))⟩,
    ⟨some 26, none, .pick (.tmp 22) (.val (.bool true)) (.tmp 25)⟩] [] [1, 3, 5, 26])
  (.cond (.tmp 26)
  (.seq
  (.reg [⟨some 6, none, .mv (.val (.list .nil 1 []))⟩,
    ⟨some 7, none, .mv (.val (.int .i64 1))⟩] [] [6, 7])
  (.ret))
  (.skip)))
  (.seq
  (.seq
  (.reg [⟨some 27, none, .ld (some 4) (.tmp 3)⟩,
    ⟨some 28, none, .faddr 0 (.tmp 5)⟩,
    ⟨some 29, none, .ld none (.tmp 28)⟩,
    ⟨some 30, none, .faddr 1 (.tmp 5)⟩,
    ⟨some 31, none, .ld none (.tmp 30)⟩,
    ⟨some 32, none, .call 25 .pure [(.tmp 27), (.tmp 29), (.tmp 31)]⟩,
    ⟨some 33, none, .un .not (.tmp 32)⟩,
    ⟨some 34, none, .mv (.tmp 33)⟩,
    ⟨some 35, (some (34, false)), .faddr 1 (.tmp 5)⟩,
    ⟨some 36, (some (34, false)), .ld none (.tmp 35)⟩,
    ⟨some 37, (some (34, false)), .faddr 2 (.tmp 5)⟩,
    ⟨some 38, (some (34, false)), .ld none (.tmp 37)⟩,
    ⟨some 39, (some (34, false)), .call 51 .pure [(.tmp 36), (.tmp 38)]⟩,
    ⟨some 40, (some (34, false)), .un .not (.tmp 39)⟩,
    ⟨some 41, none, .pick (.tmp 34) (.val (.bool true)) (.tmp 40)⟩] [] [1, 5, 41])
  (.cond (.tmp 41)
  (.seq
  (.reg [⟨some 6, none, .mv (.val (.list .nil 1 []))⟩,
    ⟨some 7, none, .mv (.val (.int .i64 2))⟩] [] [6, 7])
  (.ret))
  (.skip)))
  (.seq
  (.reg [⟨some 42, none, .bsl 0 4 [(.int .i64 0), (.int .i64 0), (.int .i64 0), (.int .i64 0)] []⟩,
    ⟨some 43, none, .mv (.tmp 1)⟩,
    ⟨some 44, none, .app 45 4 32 (.tmp 42) (.tmp 43)⟩,
    ⟨some 9, none, .mv (.tmp 44)⟩] [] [1, 5, 9])
  (.seq
  (.seq
  (.reg [⟨some 45, none, .mv (.tmp 1)⟩,
    ⟨some 46, none, .faddr 0 (.tmp 5)⟩,
    ⟨some 47, none, .ld none (.tmp 46)⟩,
    ⟨some 48, none, .faddr 1 (.tmp 5)⟩,
    ⟨some 49, none, .ld none (.tmp 48)⟩,
    ⟨some 50, none, .faddr 2 (.tmp 5)⟩,
    ⟨some 51, none, .ld none (.tmp 50)⟩,
    ⟨some 52, none, .call 60 .pure [(.tmp 45), (.tmp 47), (.tmp 49), (.tmp 51)]⟩,
    ⟨some 10, none, .mv (.tmp 52)⟩] [] [1, 5, 9, 10])
  (.seq
  (.reg [⟨some 53, none, .mv (.tmp 10)⟩,
    ⟨some 54, none, .bin .geq (.tmp 53) (.val (.int .i64 0))⟩] [] [1, 5, 9, 10, 54])
  (.cond (.tmp 54)
  (.seq
  (.reg [⟨some 55, none, .mv (.tmp 9)⟩,
    ⟨some 56, none, .mv (.tmp 10)⟩,
    ⟨some 57, none, .faddr 3 (.tmp 5)⟩,
    ⟨some 58, none, .ld none (.tmp 57)⟩,
    ⟨some 59, none, .iaS 4 (.tmp 55) (.tmp 56)⟩,
    ⟨some 60, none, .faddr 3 (.tmp 59)⟩,
    ⟨none, none, .st 1 (.tmp 60) (.tmp 58)⟩] [] [9])
  (.seq
  (.reg [⟨some 61, none, .mv (.tmp 9)⟩,
    ⟨some 6, none, .mv (.tmp 61)⟩,
    ⟨some 7, none, .mv (.val (.int .i64 0))⟩] [] [6, 7])
  (.ret)))
  (.skip))))
  (.seq
  (.seq
  (.reg [⟨some 62, none, .mv (.tmp 1)⟩,
    ⟨some 63, none, .len (.tmp 62)⟩,
    ⟨some 64, none, .bin .geq (.tmp 63) (.val (.int .i64 300))⟩] [] [5, 9, 64])
  (.cond (.tmp 64)
  (.seq
  (.reg [⟨some 6, none, .mv (.val (.list .nil 1 []))⟩,
    ⟨some 7, none, .mv (.val (.int .i64 10))⟩] [] [6, 7])
  (.ret))
  (.skip)))
  (.seq
  (.reg [⟨some 65, none, .mv (.tmp 9)⟩,
    ⟨some 66, none, .ld (some 4) (.tmp 5)⟩,
    ⟨some 67, none, .bsl 1 4 [(.int .i64 0), (.int .i64 0), (.int .i64 0), (.int .i64 0)] [(0, 4, (.tmp 66))]⟩,
    ⟨some 68, none, .app 45 4 32 (.tmp 65) (.tmp 67)⟩,
    ⟨some 9, none, .mv (.tmp 68)⟩] [] [9])
  (.seq
  (.seq
  (.reg [⟨some 69, none, .mv (.tmp 9)⟩,
    ⟨some 70, none, .len (.tmp 69)⟩,
    ⟨some 71, none, .bin .sub (.tmp 70) (.val (.int .i64 1))⟩,
    ⟨some 11, none, .mv (.tmp 71)⟩] [] [9, 11])
  (.blk 0 (.loop (.trim (.seq
  (.seq
  (.reg [⟨some 72, none, .mv (.tmp 11)⟩,
    ⟨some 73, none, .bin .gtr (.tmp 72) (.val (.int .i64 0))⟩,
    ⟨some 74, none, .mv (.tmp 73)⟩,
    ⟨some 75, (some (74, true)), .mv (.tmp 9)⟩,
    ⟨some 76, (some (74, true)), .mv (.tmp 11)⟩,
    ⟨some 77, (some (74, true)), .iaS 4 (.tmp 75) (.tmp 76)⟩,
    ⟨some 78, (some (74, true)), .ld (some 4) (.tmp 77)⟩,
    ⟨some 79, (some (74, true)), .mv (.tmp 9)⟩,
    ⟨some 80, (some (74, true)), .mv (.tmp 11)⟩,
    ⟨some 81, (some (74, true)), .bin .sub (.tmp 80) (.val (.int .i64 1))⟩,
    ⟨some 82, (some (74, true)), .iaS 4 (.tmp 79) (.tmp 81)⟩,
    ⟨some 83, (some (74, true)), .ld (some 4) (.tmp 82)⟩,
    ⟨some 84, (some (74, true)), .call 50 .pure [(.tmp 78), (.tmp 83)]⟩,
    ⟨some 85, none, .pick (.tmp 74) (.tmp 84) (.val (.bool false))⟩] [] [9, 11, 85])
  (.cond (.tmp 85)
  (.skip)
  (.ext 0)))
  (.seq
  (.blk 1 (.seq
  (.reg [⟨some 88, none, .mv (.tmp 9)⟩,
    ⟨some 89, none, .mv (.tmp 11)⟩,
    ⟨some 90, none, .iaS 4 (.tmp 88) (.tmp 89)⟩,
    ⟨some 91, none, .ld (some 4) (.tmp 90)⟩,
    ⟨some 12, none, .zer 45 (.agg [(.int .i64 0), (.int .i64 0), (.int .i64 0), (.int .i64 0)])⟩,
    ⟨none, none, .st 4 (.tmp 12) (.tmp 91)⟩] [] [9, 11, 12])
  (.seq
  (.reg [⟨some 92, none, .mv (.tmp 9)⟩,
    ⟨some 93, none, .mv (.tmp 11)⟩,
    ⟨some 94, none, .mv (.tmp 9)⟩,
    ⟨some 95, none, .mv (.tmp 11)⟩,
    ⟨some 96, none, .bin .sub (.tmp 95) (.val (.int .i64 1))⟩,
    ⟨some 97, none, .iaS 4 (.tmp 94) (.tmp 96)⟩,
    ⟨some 98, none, .ld (some 4) (.tmp 97)⟩,
    ⟨some 99, none, .iaS 4 (.tmp 92) (.tmp 93)⟩,
    ⟨none, none, .st 4 (.tmp 99) (.tmp 98)⟩] [] [9, 11, 12])
  (.reg [⟨some 100, none, .mv (.tmp 9)⟩,
    ⟨some 101, none, .mv (.tmp 11)⟩,
    ⟨some 102, none, .bin .sub (.tmp 101) (.val (.int .i64 1))⟩,
    ⟨some 103, none, .ld (some 4) (.tmp 12)⟩,
    ⟨some 104, none, .iaS 4 (.tmp 100) (.tmp 102)⟩,
    ⟨none, none, .st 4 (.tmp 104) (.tmp 103)⟩] [] [9, 11]))))
  (.reg [⟨some 86, none, .mv (.tmp 11)⟩,
    ⟨some 87, none, .bin .sub (.tmp 86) (.val (.int .i64 1))⟩,
    ⟨some 11, none, .mv (.tmp 87)⟩] [] [9, 11])))))))
  (.seq
  (.reg [⟨some 105, none, .mv (.tmp 9)⟩,
    ⟨some 6, none, .mv (.tmp 105)⟩,
    ⟨some 7, none, .mv (.val (.int .i64 0))⟩] [] [6, 7])
  (.ret))))))))))⟩
theorem pf31_ok : fnOk Try.prog 31 pf31 = true := by kernel_rfl

/-- hinterland/block.Put -/
def pf32 : PFn := ⟨69, 3, [.tmp 6, .tmp 7], .seq
  (.reg [⟨some 3, none, .boxp 25 (.tmp 0)⟩,
    ⟨some 5, none, .boxp 45 (.tmp 2)⟩,
    ⟨some 6, none, .mv (.val (.list .nil 1 []))⟩,
    ⟨some 7, none, .mv (.val (.int .i64 0))⟩] [] [1, 3, 5])
  (.seq
  (.seq
  (.reg [⟨some 11, none, .ld (some 4) (.tmp 3)⟩,
    ⟨some 12, none, .mv (.tmp 1)⟩,
    ⟨some 13, none, .call 19 .pure [(.tmp 11), (.tmp 12)]⟩,
    ⟨some 8, none, .mv (.tmp 13)⟩] [] [1, 3, 5, 8])
  (.seq
  (.reg [⟨some 14, none, .mv (.tmp 8)⟩,
    ⟨some 15, none, .bin .neq (.tmp 14) (.val (.int .i64 0))⟩] [] [1, 3, 5, 8, 15])
  (.cond (.tmp 15)
  (.seq
  (.reg [⟨some 16, none, .mv (.tmp 8)⟩,
    ⟨some 6, none, .mv (.val (.list .nil 1 []))⟩,
    ⟨some 7, none, .mv (.tmp 16)⟩] [] [6, 7])
  (.ret))
  (.skip))))
  (.seq
  (.reg [⟨some 18, none, .mv (.tmp 1)⟩,
    ⟨some 19, none, .ld (some 4) (.tmp 5)⟩,
    ⟨some 20, none, .call 61 .pure [(.tmp 18), (.tmp 19)]⟩,
    ⟨some 17, none, .mv (.tmp 20)⟩,
    ⟨some 21, none, .ext 0 (.tmp 17)⟩,
    ⟨some 22, none, .ext 1 (.tmp 17)⟩,
    ⟨some 9, none, .mv (.tmp 21)⟩,
    ⟨some 10, none, .mv (.tmp 22)⟩] [] [1, 3, 5, 9, 10])
  (.seq
  (.blk 0 (.seq
  (.reg [⟨some 24, none, .faddr 3 (.tmp 5)⟩,
    ⟨some 25, none, .ld none (.tmp 24)⟩,
    ⟨some 26, none, .bin .lss (.tmp 25) (.val (.int .i64 0))⟩,
    ⟨some 27, none, .mv (.tmp 26)⟩,
    ⟨some 28, (some (27, false)), .faddr 3 (.tmp 5)⟩,
    ⟨some 29, (some (27, false)), .ld none (.tmp 28)⟩,
    ⟨some 30, (some (27, false)), .bin .geq (.tmp 29) (.val (.int .i64 6))⟩,
    ⟨some 31, none, .pick (.tmp 27) (.val (.bool true)) (.tmp 30)⟩,
    ⟨some 23, none, .mv (.tmp 31)⟩] [] [1, 3, 5, 9, 10, 23])
  (.cond (.tmp 23)
  (.seq
  (.reg [⟨some 6, none, .mv (.val (.list .nil 1 []))⟩,
    ⟨some 7, none, .mv (.val (.int .i64 1))⟩] [] [6, 7])
  (.ret))
  (.seq
  (.reg [⟨some 33, none, .ld (some 4) (.tmp 3)⟩,
    ⟨some 34, none, .faddr 0 (.tmp 5)⟩,
    ⟨some 35, none, .ld none (.tmp 34)⟩,
    ⟨some 36, none, .faddr 1 (.tmp 5)⟩,
    ⟨some 37, none, .ld none (.tmp 36)⟩,
    ⟨some 38, none, .call 54 .pure [(.tmp 33), (.tmp 35), (.tmp 37)]⟩,
    ⟨some 39, none, .un .not (.tmp 38)⟩,
    ⟨some 40, none, .mv (.tmp 39)⟩,
    ⟨some 41, (some (40, false)), .faddr 1 (.tmp 5)⟩,
    ⟨some 42, (some (40, false)), .ld none (.tmp 41)⟩,
    ⟨some 43, (some (40, false)), .faddr 2 (.tmp 5)⟩,
    ⟨some 44, (some (40, false)), .ld none (.tmp 43)⟩,
    ⟨some 45, (some (40, false)), .call 55 .pure [(.tmp 42), (.tmp 44)]⟩,
    ⟨some 46, (some (40, false)), .un .not (.tmp 45)⟩,
    ⟨some 47, none, .pick (.tmp 40) (.val (.bool true)) (.tmp 46)⟩,
    ⟨some 32, none, .mv (.tmp 47)⟩] [] [1, 5, 9, 10, 32])
  (.cond (.tmp 32)
  (.seq
  (.reg [⟨some 6, none, .mv (.val (.list .nil 1 []))⟩,
    ⟨some 7, none, .mv (.val (.int .i64 2))⟩] [] [6, 7])
  (.ret))
  (.seq
  (.reg [⟨some 49, none, .mv (.tmp 10)⟩,
    ⟨some 50, none, .un .not (.tmp 49)⟩,
    ⟨some 51, none, .mv (.tmp 50)⟩,
    ⟨some 52, (some (51, true)), .mv (.tmp 1)⟩,
    ⟨some 53, (some (51, true)), .len (.tmp 52)⟩,
    ⟨some 54, (some (51, true)), .bin .geq (.tmp 53) (.val (.int .i64 300))⟩,
    ⟨some 55, none, .pick (.tmp 51) (.tmp 54) (.val (.bool false))⟩,
    ⟨some 48, none, .mv (.tmp 55)⟩] [] [1, 5, 9, 10, 48])
  (.cond (.tmp 48)
  (.seq
  (.reg [⟨some 6, none, .mv (.val (.list .nil 1 []))⟩,
    ⟨some 7, none, .mv (.val (.int .i64 10))⟩] [] [6, 7])
  (.ret))
  (.skip))))))))
  (.seq
  (.reg [⟨some 56, none, .mv (.tmp 1)⟩,
    ⟨some 57, none, .call 63 .opn [(.tmp 56)]⟩,
    ⟨some 1, none, .mv (.tmp 57)⟩] [] [1, 5, 9, 10])
  (.seq
  (.seq
  (.reg [⟨some 58, none, .mv (.tmp 10)⟩] [] [1, 5, 9, 58])
  (.cond (.tmp 58)
  (.seq
  (.reg [⟨some 59, none, .mv (.tmp 1)⟩,
    ⟨some 60, none, .mv (.tmp 9)⟩,
    ⟨some 61, none, .ld (some 4) (.tmp 5)⟩,
    ⟨some 62, none, .iaS 4 (.tmp 59) (.tmp 60)⟩,
    ⟨none, none, .st 4 (.tmp 62) (.tmp 61)⟩] [] [1])
  (.seq
  (.reg [⟨some 63, none, .mv (.tmp 1)⟩,
    ⟨some 6, none, .mv (.tmp 63)⟩,
    ⟨some 7, none, .mv (.val (.int .i64 0))⟩] [] [6, 7])
  (.ret)))
  (.skip)))
  (.seq
  (.reg [⟨some 64, none, .mv (.tmp 1)⟩,
    ⟨some 65, none, .mv (.tmp 9)⟩,
    ⟨some 66, none, .ld (some 4) (.tmp 5)⟩,
    ⟨some 67, none, .bslm 45 1 4 [(.int .i64 0), (.int .i64 0), (.int .i64 0), (.int .i64 0)] [(0, 4, (.tmp 66))]⟩,
    ⟨some 68, none, .call 67 .opn [(.tmp 64), (.tmp 65), (.tmp 67)]⟩,
    ⟨some 6, none, .mv (.tmp 68)⟩,
    ⟨some 7, none, .mv (.val (.int .i64 0))⟩] [] [6, 7])
  (.ret)))))))⟩
theorem pf32_ok : fnOk Try.prog 32 pf32 = true := by kernel_rfl

/-- (*hinterland/block.Map).Of -/
def pf33 : PFn := ⟨28, 3, [.tmp 6, .tmp 7], .seq
  (.reg [⟨some 6, none, .mv (.val (.int .i64 0))⟩,
    ⟨some 7, none, .mv (.val (.int .i64 0))⟩] [] [0, 1, 2])
  (.seq
  (.seq
  (.reg [⟨some 8, none, .mv (.tmp 0)⟩,
    ⟨some 9, none, .call 68 .pure [(.tmp 8)]⟩,
    ⟨some 10, none, .un .not (.tmp 9)⟩] [] [0, 1, 2, 10])
  (.cond (.tmp 10)
  (.seq
  (.reg [⟨some 6, none, .mv (.val (.int .i64 0))⟩,
    ⟨some 7, none, .mv (.val (.int .i64 1))⟩] [] [6, 7])
  (.ret))
  (.skip)))
  (.seq
  (.seq
  (.reg [⟨some 11, none, .mv (.tmp 0)⟩,
    ⟨some 12, none, .nck (.tmp 11)⟩,
    ⟨some 13, none, .faddr 0 (.tmp 12)⟩,
    ⟨some 14, none, .ld (some 4) (.tmp 13)⟩,
    ⟨some 15, none, .mv (.tmp 1)⟩,
    ⟨some 16, none, .mv (.tmp 2)⟩,
    ⟨some 17, none, .call 54 .pure [(.tmp 14), (.tmp 15), (.tmp 16)]⟩,
    ⟨some 18, none, .un .not (.tmp 17)⟩] [] [0, 1, 2, 18])
  (.cond (.tmp 18)
  (.seq
  (.reg [⟨some 6, none, .mv (.val (.int .i64 0))⟩,
    ⟨some 7, none, .mv (.val (.int .i64 2))⟩] [] [6, 7])
  (.ret))
  (.skip)))
  (.seq
  (.reg [⟨some 19, none, .mv (.tmp 0)⟩,
    ⟨some 20, none, .nck (.tmp 19)⟩,
    ⟨some 21, none, .faddr 5 (.tmp 20)⟩,
    ⟨some 22, none, .ld none (.tmp 21)⟩,
    ⟨some 23, none, .mv (.tmp 1)⟩,
    ⟨some 24, none, .mv (.tmp 2)⟩,
    ⟨some 25, none, .call 59 .pure [(.tmp 23), (.tmp 24)]⟩,
    ⟨some 26, none, .iaS 1 (.tmp 22) (.tmp 25)⟩,
    ⟨some 27, none, .ld none (.tmp 26)⟩,
    ⟨some 6, none, .mv (.tmp 27)⟩,
    ⟨some 7, none, .mv (.val (.int .i64 0))⟩] [] [6, 7])
  (.ret))))⟩
theorem pf33_ok : fnOk Try.prog 33 pf33 = true := by kernel_rfl

/-- (*hinterland/block.Map).Lay -/
def pf34 : PFn := ⟨30, 3, [.tmp 6], .seq
  (.reg [⟨some 6, none, .mv (.val (.int .i64 0))⟩] [] [0, 1, 2])
  (.seq
  (.seq
  (.reg [⟨some 9, none, .mv (.tmp 0)⟩,
    ⟨some 10, none, .call 68 .pure [(.tmp 9)]⟩,
    ⟨some 11, none, .un .not (.tmp 10)⟩] [] [0, 1, 2, 11])
  (.cond (.tmp 11)
  (.seq
  (.reg [⟨some 6, none, .mv (.val (.int .i64 1))⟩] [] [6])
  (.ret))
  (.skip)))
  (.seq
  (.reg [⟨some 13, none, .mv (.tmp 0)⟩,
    ⟨some 14, none, .nck (.tmp 13)⟩,
    ⟨some 15, none, .faddr 0 (.tmp 14)⟩,
    ⟨some 16, none, .ld (some 4) (.tmp 15)⟩,
    ⟨some 17, none, .mv (.tmp 1)⟩,
    ⟨some 18, none, .mv (.tmp 2)⟩,
    ⟨some 19, none, .call 69 .pure [(.tmp 16), (.tmp 17), (.tmp 18), (.val (.bool false))]⟩,
    ⟨some 12, none, .mv (.tmp 19)⟩,
    ⟨some 20, none, .ext 0 (.tmp 12)⟩,
    ⟨some 21, none, .ext 1 (.tmp 12)⟩,
    ⟨some 7, none, .zer 25 (.agg [(.int .i64 0), (.int .i64 0), (.list .nil 1 []), (.list .nil 1 [])])⟩,
    ⟨none, none, .st 4 (.tmp 7) (.tmp 20)⟩,
    ⟨some 8, none, .mv (.tmp 21)⟩] [] [0, 7, 8])
  (.seq
  (.reg [⟨some 22, none, .mv (.tmp 0)⟩,
    ⟨some 23, none, .ld (some 4) (.tmp 7)⟩,
    ⟨some 24, none, .mv (.tmp 0)⟩,
    ⟨some 25, none, .nck (.tmp 24)⟩,
    ⟨some 26, none, .faddr 4 (.tmp 25)⟩,
    ⟨some 27, none, .ld none (.tmp 26)⟩,
    ⟨some 28, none, .mv (.tmp 8)⟩,
    ⟨some 29, none, .call 70 .pure [(.tmp 22), (.tmp 23), (.tmp 27), (.tmp 28)]⟩,
    ⟨some 6, none, .mv (.tmp 29)⟩] [] [6])
  (.ret))))⟩
theorem pf34_ok : fnOk Try.prog 34 pf34 = true := by kernel_rfl

/-- (*hinterland/block.Map).Lift -/
def pf35 : PFn := ⟨38, 3, [.tmp 6], .seq
  (.reg [⟨some 4, none, .boxp 3 (.tmp 1)⟩,
    ⟨some 5, none, .boxp 3 (.tmp 2)⟩,
    ⟨some 6, none, .mv (.val (.int .i64 0))⟩] [] [0, 4, 5])
  (.seq
  (.seq
  (.reg [⟨some 10, none, .mv (.tmp 0)⟩,
    ⟨some 11, none, .call 68 .pure [(.tmp 10)]⟩,
    ⟨some 12, none, .un .not (.tmp 11)⟩] [] [0, 4, 5, 12])
  (.cond (.tmp 12)
  (.seq
  (.reg [⟨some 6, none, .mv (.val (.int .i64 1))⟩] [] [6])
  (.ret))
  (.skip)))
  (.seq
  (.reg [⟨some 14, none, .mv (.tmp 0)⟩,
    ⟨some 15, none, .nck (.tmp 14)⟩,
    ⟨some 16, none, .faddr 0 (.tmp 15)⟩,
    ⟨some 17, none, .ld (some 4) (.tmp 16)⟩,
    ⟨some 18, none, .ld none (.tmp 4)⟩,
    ⟨some 19, none, .ld none (.tmp 5)⟩,
    ⟨some 20, none, .call 71 .pure [(.tmp 17), (.tmp 18), (.tmp 19)]⟩,
    ⟨some 13, none, .mv (.tmp 20)⟩,
    ⟨some 21, none, .ext 0 (.tmp 13)⟩,
    ⟨some 22, none, .ext 1 (.tmp 13)⟩,
    ⟨some 7, none, .zer 25 (.agg [(.int .i64 0), (.int .i64 0), (.list .nil 1 []), (.list .nil 1 [])])⟩,
    ⟨none, none, .st 4 (.tmp 7) (.tmp 21)⟩,
    ⟨some 8, none, .mv (.tmp 22)⟩] [(3, 10), (3, 11), (4, 10), (4, 11), (5, 10), (5, 11), (6, 10), (6, 11)] [0, 4, 5, 7, 8])
  (.seq
  (.seq
  (.reg [⟨some 23, none, .mv (.tmp 8)⟩,
    ⟨some 24, none, .bin .neq (.tmp 23) (.val (.int .i64 0))⟩] [] [0, 4, 5, 7, 8, 24])
  (.cond (.tmp 24)
  (.seq
  (.reg [⟨some 25, none, .mv (.tmp 8)⟩,
    ⟨some 6, none, .mv (.tmp 25)⟩] [] [6])
  (.ret))
  (.skip)))
  (.seq
  (.reg [⟨some 26, none, .mv (.tmp 0)⟩,
    ⟨some 27, none, .nck (.tmp 26)⟩,
    ⟨some 28, none, .faddr 4 (.tmp 27)⟩,
    ⟨some 29, none, .ld none (.tmp 28)⟩,
    ⟨some 30, none, .call 63 .opn [(.tmp 29)]⟩,
    ⟨some 31, none, .mkf (.func 73) [] [(.tmp 4), (.tmp 5)]⟩,
    ⟨some 32, none, .call 72 .opn [(.tmp 30), (.tmp 31)]⟩,
    ⟨some 9, none, .mv (.tmp 32)⟩] [] [0, 7, 8, 9])
  (.seq
  (.reg [⟨some 33, none, .mv (.tmp 0)⟩,
    ⟨some 34, none, .ld (some 4) (.tmp 7)⟩,
    ⟨some 35, none, .mv (.tmp 9)⟩,
    ⟨some 36, none, .mv (.tmp 8)⟩,
    ⟨some 37, none, .call 70 .pure [(.tmp 33), (.tmp 34), (.tmp 35), (.tmp 36)]⟩,
    ⟨some 6, none, .mv (.tmp 37)⟩] [] [6])
  (.ret))))))⟩
theorem pf35_ok : fnOk Try.prog 35 pf35 = true := by kernel_rfl

/-- (*hinterland/block.Map).Put -/
def pf36 : PFn := ⟨31, 2, [.tmp 4], .seq
  (.reg [⟨some 3, none, .boxp 45 (.tmp 1)⟩,
    ⟨some 4, none, .mv (.val (.int .i64 0))⟩] [] [0, 3])
  (.seq
  (.seq
  (.reg [⟨some 7, none, .mv (.tmp 0)⟩,
    ⟨some 8, none, .call 68 .pure [(.tmp 7)]⟩,
    ⟨some 9, none, .un .not (.tmp 8)⟩] [] [0, 3, 9])
  (.cond (.tmp 9)
  (.seq
  (.reg [⟨some 4, none, .mv (.val (.int .i64 1))⟩] [] [4])
  (.ret))
  (.skip)))
  (.seq
  (.reg [⟨some 11, none, .mv (.tmp 0)⟩,
    ⟨some 12, none, .nck (.tmp 11)⟩,
    ⟨some 13, none, .faddr 0 (.tmp 12)⟩,
    ⟨some 14, none, .ld (some 4) (.tmp 13)⟩,
    ⟨some 15, none, .mv (.tmp 0)⟩,
    ⟨some 16, none, .nck (.tmp 15)⟩,
    ⟨some 17, none, .faddr 4 (.tmp 16)⟩,
    ⟨some 18, none, .ld none (.tmp 17)⟩,
    ⟨some 19, none, .ld (some 4) (.tmp 3)⟩,
    ⟨some 20, none, .call 32 .pure [(.tmp 14), (.tmp 18), (.tmp 19)]⟩,
    ⟨some 10, none, .mv (.tmp 20)⟩,
    ⟨some 21, none, .ext 0 (.tmp 10)⟩,
    ⟨some 22, none, .ext 1 (.tmp 10)⟩,
    ⟨some 5, none, .mv (.tmp 21)⟩,
    ⟨some 6, none, .mv (.tmp 22)⟩] [] [0, 5, 6])
  (.seq
  (.reg [⟨some 23, none, .mv (.tmp 0)⟩,
    ⟨some 24, none, .mv (.tmp 0)⟩,
    ⟨some 25, none, .nck (.tmp 24)⟩,
    ⟨some 26, none, .faddr 0 (.tmp 25)⟩,
    ⟨some 27, none, .ld (some 4) (.tmp 26)⟩,
    ⟨some 28, none, .mv (.tmp 5)⟩,
    ⟨some 29, none, .mv (.tmp 6)⟩,
    ⟨some 30, none, .call 70 .pure [(.tmp 23), (.tmp 27), (.tmp 28), (.tmp 29)]⟩,
    ⟨some 4, none, .mv (.tmp 30)⟩] [] [4])
  (.ret))))⟩
theorem pf36_ok : fnOk Try.prog 36 pf36 = true := by kernel_rfl

/-- (*hinterland/block.Map).Take -/
def pf37 : PFn := ⟨37, 4, [.tmp 8], .seq
  (.reg [⟨some 8, none, .mv (.val (.int .i64 0))⟩] [] [0, 1, 2, 3])
  (.seq
  (.seq
  (.reg [⟨some 11, none, .mv (.tmp 0)⟩,
    ⟨some 12, none, .call 68 .pure [(.tmp 11)]⟩,
    ⟨some 13, none, .un .not (.tmp 12)⟩] [] [0, 1, 2, 3, 13])
  (.cond (.tmp 13)
  (.seq
  (.reg [⟨some 8, none, .mv (.val (.int .i64 1))⟩] [] [8])
  (.ret))
  (.skip)))
  (.seq
  (.reg [⟨some 15, none, .mv (.tmp 0)⟩,
    ⟨some 16, none, .nck (.tmp 15)⟩,
    ⟨some 17, none, .faddr 0 (.tmp 16)⟩,
    ⟨some 18, none, .ld (some 4) (.tmp 17)⟩,
    ⟨some 19, none, .mv (.tmp 0)⟩,
    ⟨some 20, none, .nck (.tmp 19)⟩,
    ⟨some 21, none, .faddr 4 (.tmp 20)⟩,
    ⟨some 22, none, .ld none (.tmp 21)⟩,
    ⟨some 23, none, .mv (.tmp 1)⟩,
    ⟨some 24, none, .mv (.tmp 2)⟩,
    ⟨some 25, none, .mv (.tmp 3)⟩,
    ⟨some 26, none, .call 27 .pure [(.tmp 18), (.tmp 22), (.tmp 23), (.tmp 24), (.tmp 25)]⟩,
    ⟨some 14, none, .mv (.tmp 26)⟩,
    ⟨some 27, none, .ext 0 (.tmp 14)⟩,
    ⟨some 28, none, .ext 1 (.tmp 14)⟩,
    ⟨some 9, none, .mv (.tmp 27)⟩,
    ⟨some 10, none, .mv (.tmp 28)⟩] [] [0, 9, 10])
  (.seq
  (.reg [⟨some 29, none, .mv (.tmp 0)⟩,
    ⟨some 30, none, .mv (.tmp 0)⟩,
    ⟨some 31, none, .nck (.tmp 30)⟩,
    ⟨some 32, none, .faddr 0 (.tmp 31)⟩,
    ⟨some 33, none, .ld (some 4) (.tmp 32)⟩,
    ⟨some 34, none, .mv (.tmp 9)⟩,
    ⟨some 35, none, .mv (.tmp 10)⟩,
    ⟨some 36, none, .call 70 .pure [(.tmp 29), (.tmp 33), (.tmp 34), (.tmp 35)]⟩,
    ⟨some 8, none, .mv (.tmp 36)⟩] [] [8])
  (.ret))))⟩
theorem pf37_ok : fnOk Try.prog 37 pf37 = true := by kernel_rfl

/-- (*hinterland/block.Map).Blocks -/
def pf38 : PFn := ⟨11, 1, [.tmp 2], .seq
  (.reg [⟨some 2, none, .mv (.val (.list .nil 1 []))⟩] [] [0])
  (.seq
  (.seq
  (.reg [⟨some 3, none, .mv (.tmp 0)⟩,
    ⟨some 4, none, .call 68 .pure [(.tmp 3)]⟩,
    ⟨some 5, none, .un .not (.tmp 4)⟩] [] [0, 5])
  (.cond (.tmp 5)
  (.seq
  (.reg [⟨some 2, none, .mv (.val (.list .nil 1 []))⟩] [] [2])
  (.ret))
  (.skip)))
  (.seq
  (.reg [⟨some 6, none, .mv (.tmp 0)⟩,
    ⟨some 7, none, .nck (.tmp 6)⟩,
    ⟨some 8, none, .faddr 5 (.tmp 7)⟩,
    ⟨some 9, none, .ld none (.tmp 8)⟩,
    ⟨some 10, none, .call 57 .pure [(.tmp 9)]⟩,
    ⟨some 2, none, .mv (.tmp 10)⟩] [] [2])
  (.ret)))⟩
theorem pf38_ok : fnOk Try.prog 38 pf38 = true := by kernel_rfl

/-- hinterland/block.New -/
def pf39 : PFn := ⟨29, 2, [.tmp 4, .tmp 5], .seq
  (.reg [⟨some 2, none, .boxm 25 (.tmp 0)⟩,
    ⟨some 4, none, .mv (.val .nilptr)⟩,
    ⟨some 5, none, .mv (.val (.int .i64 0))⟩] [] [1, 2])
  (.seq
  (.seq
  (.reg [⟨some 7, none, .ld (some 4) (.tmp 2)⟩,
    ⟨some 8, none, .mv (.tmp 1)⟩,
    ⟨some 9, none, .call 19 .pure [(.tmp 7), (.tmp 8)]⟩,
    ⟨some 6, none, .mv (.tmp 9)⟩] [] [1, 2, 6])
  (.seq
  (.reg [⟨some 10, none, .mv (.tmp 6)⟩,
    ⟨some 11, none, .bin .neq (.tmp 10) (.val (.int .i64 0))⟩] [] [1, 2, 6, 11])
  (.cond (.tmp 11)
  (.seq
  (.reg [⟨some 12, none, .mv (.tmp 6)⟩,
    ⟨some 4, none, .mv (.val .nilptr)⟩,
    ⟨some 5, none, .mv (.tmp 12)⟩] [] [4, 5])
  (.ret))
  (.skip))))
  (.seq
  (.reg [⟨some 13, none, .faddr 2 (.tmp 2)⟩,
    ⟨some 14, none, .ld none (.tmp 13)⟩,
    ⟨some 15, none, .call 74 .pure [(.tmp 14)]⟩,
    ⟨some 16, none, .faddr 3 (.tmp 2)⟩,
    ⟨some 17, none, .ld none (.tmp 16)⟩,
    ⟨some 18, none, .call 75 .pure [(.tmp 17)]⟩,
    ⟨some 19, none, .faddr 2 (.tmp 2)⟩,
    ⟨none, none, .st 1 (.tmp 19) (.tmp 15)⟩,
    ⟨some 20, none, .faddr 3 (.tmp 2)⟩,
    ⟨none, none, .st 1 (.tmp 20) (.tmp 18)⟩] [] [1, 2])
  (.seq
  (.reg [⟨some 21, none, .ld (some 4) (.tmp 2)⟩,
    ⟨some 22, none, .mv (.tmp 1)⟩,
    ⟨some 23, none, .call 63 .opn [(.tmp 22)]⟩,
    ⟨some 24, none, .ld (some 4) (.tmp 2)⟩,
    ⟨some 25, none, .mv (.tmp 1)⟩,
    ⟨some 26, none, .call 58 .pure [(.tmp 24), (.tmp 25)]⟩,
    ⟨some 27, none, .bld [(.int .i64 0), (.int .i64 0), (.list .nil 1 []), (.list .nil 1 []), (.list .nil 4 []), (.list .nil 1 [])] [(0, 4, (.tmp 21)), (4, 1, (.tmp 23)), (5, 1, (.tmp 26))]⟩,
    ⟨some 28, none, .boxp 56 (.tmp 27)⟩,
    ⟨some 4, none, .mv (.tmp 28)⟩,
    ⟨some 5, none, .mv (.val (.int .i64 0))⟩] [(0, 2), (0, 3), (3, 2), (3, 3)] [4, 5])
  (.ret))))⟩
theorem pf39_ok : fnOk Try.prog 39 pf39 = true := by kernel_rfl

/-- hinterland/hinterlandref03.Lay -/
def pf40 : PFn := ⟨61, 4, [.cell 8 (some 4), .tmp 9], .seq
  (.reg [⟨some 4, none, .boxp 25 (.tmp 0)⟩,
    ⟨some 8, none, .zer 25 (.agg [(.int .i64 0), (.int .i64 0), (.list .nil 1 []), (.list .nil 1 [])])⟩,
    ⟨some 9, none, .mv (.val (.int .i64 0))⟩] [] [1, 2, 3, 4, 8])
  (.seq
  (.seq
  (.reg [⟨some 12, none, .ld (some 4) (.tmp 4)⟩,
    ⟨some 13, none, .call 49 .pure [(.tmp 12)]⟩,
    ⟨some 10, none, .mv (.tmp 13)⟩] [] [1, 2, 3, 4, 8, 10])
  (.seq
  (.reg [⟨some 14, none, .mv (.tmp 10)⟩,
    ⟨some 15, none, .bin .neq (.tmp 14) (.val (.int .i64 0))⟩] [] [1, 2, 3, 4, 8, 10, 15])
  (.cond (.tmp 15)
  (.seq
  (.reg [⟨some 16, none, .bld [(.int .i64 0), (.int .i64 0), (.list .nil 1 []), (.list .nil 1 [])] []⟩,
    ⟨some 17, none, .mv (.tmp 10)⟩,
    ⟨none, none, .st 4 (.tmp 8) (.tmp 16)⟩,
    ⟨some 9, none, .mv (.tmp 17)⟩] [] [8, 9])
  (.ret))
  (.skip))))
  (.seq
  (.seq
  (.reg [⟨some 18, none, .mv (.tmp 2)⟩,
    ⟨some 19, none, .call 76 .pure [(.tmp 18)]⟩,
    ⟨some 20, none, .bin .lss (.tmp 19) (.val (.int .i64 0))⟩] [] [1, 2, 3, 4, 8, 20])
  (.cond (.tmp 20)
  (.seq
  (.reg [⟨some 21, none, .bld [(.int .i64 0), (.int .i64 0), (.list .nil 1 []), (.list .nil 1 [])] []⟩,
    ⟨none, none, .st 4 (.tmp 8) (.tmp 21)⟩,
    ⟨some 9, none, .mv (.val (.int .i64 1))⟩] [] [8, 9])
  (.ret))
  (.skip)))
  (.seq
  (.seq
  (.reg [⟨some 22, none, .mv (.tmp 1)⟩,
    ⟨some 23, none, .bin .lss (.tmp 22) (.val (.int .i64 0))⟩,
    ⟨some 24, none, .mv (.tmp 23)⟩,
    ⟨some 25, (some (24, false)), .mv (.tmp 1)⟩,
    ⟨some 26, (some (24, false)), .faddr 2 (.tmp 4)⟩,
    ⟨some 27, (some (24, false)), .ld none (.tmp 26)⟩,
    ⟨some 28, (some (24, false)), .len (.tmp 27)⟩,
    ⟨some 29, (some (24, false)), .bin .geq (.tmp 25) (.tmp 28)⟩,
    ⟨some 30, none, .pick (.tmp 24) (.val (.bool true)) (.tmp 29)⟩] [] [1, 2, 3, 4, 8, 30])
  (.cond (.tmp 30)
  (.seq
  (.reg [⟨some 31, none, .bld [(.int .i64 0), (.int .i64 0), (.list .nil 1 []), (.list .nil 1 [])] []⟩,
    ⟨none, none, .st 4 (.tmp 8) (.tmp 31)⟩,
    ⟨some 9, none, .mv (.val (.int .i64 2))⟩] [] [8, 9])
  (.ret))
  (.skip)))
  (.seq
  (.seq
  (.reg [⟨some 32, none, .ld (some 4) (.tmp 4)⟩,
    ⟨some 33, none, .mv (.tmp 1)⟩,
    ⟨some 34, none, .mv (.tmp 2)⟩,
    ⟨some 35, none, .call 25 .pure [(.tmp 32), (.tmp 33), (.tmp 34)]⟩] [] [1, 2, 3, 4, 8, 35])
  (.cond (.tmp 35)
  (.seq
  (.reg [⟨some 36, none, .bld [(.int .i64 0), (.int .i64 0), (.list .nil 1 []), (.list .nil 1 [])] []⟩,
    ⟨none, none, .st 4 (.tmp 8) (.tmp 36)⟩,
    ⟨some 9, none, .mv (.val (.int .i64 3))⟩] [] [8, 9])
  (.ret))
  (.skip)))
  (.seq
  (.reg [⟨some 37, none, .ld (some 4) (.tmp 4)⟩,
    ⟨some 38, none, .call 77 .pure [(.tmp 37)]⟩,
    ⟨some 11, none, .zer 25 (.agg [(.int .i64 0), (.int .i64 0), (.list .nil 1 []), (.list .nil 1 [])])⟩,
    ⟨none, none, .st 4 (.tmp 11) (.tmp 38)⟩] [] [1, 2, 3, 8, 11])
  (.seq
  (.reg [⟨some 39, none, .faddr 2 (.tmp 11)⟩,
    ⟨some 40, none, .ld none (.tmp 39)⟩,
    ⟨some 41, none, .mv (.tmp 1)⟩,
    ⟨some 42, none, .iaS 1 (.tmp 40) (.tmp 41)⟩,
    ⟨some 43, none, .ld none (.tmp 42)⟩,
    ⟨some 44, none, .mv (.tmp 2)⟩,
    ⟨some 45, none, .bin .shl (.val (.int .i64 1)) (.tmp 44)⟩,
    ⟨some 46, none, .bin .add (.tmp 43) (.tmp 45)⟩,
    ⟨some 47, none, .iaS 1 (.tmp 40) (.tmp 41)⟩,
    ⟨none, none, .st 1 (.tmp 47) (.tmp 46)⟩] [] [1, 3, 8, 11])
  (.seq
  (.reg [⟨some 48, none, .faddr 3 (.tmp 11)⟩,
    ⟨some 49, none, .ld none (.tmp 48)⟩,
    ⟨some 50, none, .mv (.tmp 1)⟩,
    ⟨some 51, none, .faddr 3 (.tmp 11)⟩,
    ⟨some 52, none, .ld none (.tmp 51)⟩,
    ⟨some 53, none, .mv (.tmp 1)⟩,
    ⟨some 54, none, .iaS 1 (.tmp 52) (.tmp 53)⟩,
    ⟨some 55, none, .ld none (.tmp 54)⟩,
    ⟨some 56, none, .mv (.tmp 55)⟩,
    ⟨some 57, (some (56, false)), .mv (.tmp 3)⟩,
    ⟨some 58, none, .pick (.tmp 56) (.val (.bool true)) (.tmp 57)⟩,
    ⟨some 59, none, .iaS 1 (.tmp 49) (.tmp 50)⟩,
    ⟨none, none, .st 1 (.tmp 59) (.tmp 58)⟩] [] [8, 11])
  (.seq
  (.reg [⟨some 60, none, .ld (some 4) (.tmp 11)⟩,
    ⟨none, none, .st 4 (.tmp 8) (.tmp 60)⟩,
    ⟨some 9, none, .mv (.val (.int .i64 0))⟩] [] [8, 9])
  (.ret)))))))))⟩
theorem pf40_ok : fnOk Try.prog 40 pf40 = true := by kernel_rfl

/-- hinterland/hinterlandref03.Lift -/
def pf41 : PFn := ⟨55, 3, [.cell 6 (some 4), .tmp 7], .seq
  (.reg [⟨some 3, none, .boxp 25 (.tmp 0)⟩,
    ⟨some 6, none, .zer 25 (.agg [(.int .i64 0), (.int .i64 0), (.list .nil 1 []), (.list .nil 1 [])])⟩,
    ⟨some 7, none, .mv (.val (.int .i64 0))⟩] [] [1, 2, 3, 6])
  (.seq
  (.seq
  (.reg [⟨some 10, none, .ld (some 4) (.tmp 3)⟩,
    ⟨some 11, none, .call 49 .pure [(.tmp 10)]⟩,
    ⟨some 8, none, .mv (.tmp 11)⟩] [] [1, 2, 3, 6, 8])
  (.seq
  (.reg [⟨some 12, none, .mv (.tmp 8)⟩,
    ⟨some 13, none, .bin .neq (.tmp 12) (.val (.int .i64 0))⟩] [] [1, 2, 3, 6, 8, 13])
  (.cond (.tmp 13)
  (.seq
  (.reg [⟨some 14, none, .bld [(.int .i64 0), (.int .i64 0), (.list .nil 1 []), (.list .nil 1 [])] []⟩,
    ⟨some 15, none, .mv (.tmp 8)⟩,
    ⟨none, none, .st 4 (.tmp 6) (.tmp 14)⟩,
    ⟨some 7, none, .mv (.tmp 15)⟩] [] [6, 7])
  (.ret))
  (.skip))))
  (.seq
  (.seq
  (.reg [⟨some 16, none, .mv (.tmp 2)⟩,
    ⟨some 17, none, .call 76 .pure [(.tmp 16)]⟩,
    ⟨some 18, none, .bin .lss (.tmp 17) (.val (.int .i64 0))⟩] [] [1, 2, 3, 6, 18])
  (.cond (.tmp 18)
  (.seq
  (.reg [⟨some 19, none, .bld [(.int .i64 0), (.int .i64 0), (.list .nil 1 []), (.list .nil 1 [])] []⟩,
    ⟨none, none, .st 4 (.tmp 6) (.tmp 19)⟩,
    ⟨some 7, none, .mv (.val (.int .i64 1))⟩] [] [6, 7])
  (.ret))
  (.skip)))
  (.seq
  (.seq
  (.reg [⟨some 20, none, .ld (some 4) (.tmp 3)⟩,
    ⟨some 21, none, .mv (.tmp 1)⟩,
    ⟨some 22, none, .mv (.tmp 2)⟩,
    ⟨some 23, none, .call 25 .pure [(.tmp 20), (.tmp 21), (.tmp 22)]⟩,
    ⟨some 24, none, .un .not (.tmp 23)⟩] [] [1, 2, 3, 6, 24])
  (.cond (.tmp 24)
  (.seq
  (.reg [⟨some 25, none, .bld [(.int .i64 0), (.int .i64 0), (.list .nil 1 []), (.list .nil 1 [])] []⟩,
    ⟨none, none, .st 4 (.tmp 6) (.tmp 25)⟩,
    ⟨some 7, none, .mv (.val (.int .i64 2))⟩] [] [6, 7])
  (.ret))
  (.skip)))
  (.seq
  (.reg [⟨some 26, none, .ld (some 4) (.tmp 3)⟩,
    ⟨some 27, none, .call 77 .pure [(.tmp 26)]⟩,
    ⟨some 9, none, .zer 25 (.agg [(.int .i64 0), (.int .i64 0), (.list .nil 1 []), (.list .nil 1 [])])⟩,
    ⟨none, none, .st 4 (.tmp 9) (.tmp 27)⟩] [] [1, 2, 6, 9])
  (.seq
  (.reg [⟨some 28, none, .faddr 2 (.tmp 9)⟩,
    ⟨some 29, none, .ld none (.tmp 28)⟩,
    ⟨some 30, none, .mv (.tmp 1)⟩,
    ⟨some 31, none, .iaS 1 (.tmp 29) (.tmp 30)⟩,
    ⟨some 32, none, .ld none (.tmp 31)⟩,
    ⟨some 33, none, .mv (.tmp 2)⟩,
    ⟨some 34, none, .bin .shl (.val (.int .i64 1)) (.tmp 33)⟩,
    ⟨some 35, none, .bin .sub (.tmp 32) (.tmp 34)⟩,
    ⟨some 36, none, .iaS 1 (.tmp 29) (.tmp 30)⟩,
    ⟨none, none, .st 1 (.tmp 36) (.tmp 35)⟩] [] [1, 6, 9])
  (.seq
  (.reg [⟨some 37, none, .faddr 3 (.tmp 9)⟩,
    ⟨some 38, none, .ld none (.tmp 37)⟩,
    ⟨some 39, none, .mv (.tmp 1)⟩,
    ⟨some 40, none, .faddr 3 (.tmp 9)⟩,
    ⟨some 41, none, .ld none (.tmp 40)⟩,
    ⟨some 42, none, .mv (.tmp 1)⟩,
    ⟨some 43, none, .iaS 1 (.tmp 41) (.tmp 42)⟩,
    ⟨some 44, none, .ld none (.tmp 43)⟩,
    ⟨some 45, none, .mv (.tmp 44)⟩,
    ⟨some 46, (some (45, true)), .faddr 2 (.tmp 9)⟩,
    ⟨some 47, (some (45, true)), .ld none (.tmp 46)⟩,
    ⟨some 48, (some (45, true)), .mv (.tmp 1)⟩,
    ⟨some 49, (some (45, true)), .iaS 1 (.tmp 47) (.tmp 48)⟩,
    ⟨some 50, (some (45, true)), .ld none (.tmp 49)⟩,
    ⟨some 51, (some (45, true)), .bin .gtr (.tmp 50) (.val (.int .i64 0))⟩,
    ⟨some 52, none, .pick (.tmp 45) (.tmp 51) (.val (.bool false))⟩,
    ⟨some 53, none, .iaS 1 (.tmp 38) (.tmp 39)⟩,
    ⟨none, none, .st 1 (.tmp 53) (.tmp 52)⟩] [] [6, 9])
  (.seq
  (.reg [⟨some 54, none, .ld (some 4) (.tmp 9)⟩,
    ⟨none, none, .st 4 (.tmp 6) (.tmp 54)⟩,
    ⟨some 7, none, .mv (.val (.int .i64 0))⟩] [] [6, 7])
  (.ret))))))))⟩
theorem pf41_ok : fnOk Try.prog 41 pf41 = true := by kernel_rfl

/-- hinterland/hinterlandlaw07.without -/
def pf42 : PFn := ⟨39, 3, [.tmp 6], .seq
  (.reg [⟨some 6, none, .mv (.val (.list .nil 1 []))⟩] [] [0, 1, 2])
  (.seq
  (.reg [⟨some 7, none, .nacc 45 4⟩] [] [0, 1, 2, 7])
  (.seq
  (.seq
  (.reg [⟨some 8, none, .mv (.val (.int .i64 0))⟩] [] [0, 1, 2, 7, 8])
  (.blk 0 (.loop (.seq
  (.seq
  (.reg [⟨some 9, none, .mv (.tmp 8)⟩,
    ⟨some 10, none, .mv (.tmp 0)⟩,
    ⟨some 11, none, .len (.tmp 10)⟩,
    ⟨some 12, none, .bin .lss (.tmp 9) (.tmp 11)⟩] [] [0, 1, 2, 7, 8, 12])
  (.cond (.tmp 12)
  (.skip)
  (.ext 0)))
  (.seq
  (.blk 1 (.seq
  (.reg [⟨some 15, none, .mv (.tmp 0)⟩,
    ⟨some 16, none, .mv (.tmp 8)⟩,
    ⟨some 17, none, .iaS 4 (.tmp 15) (.tmp 16)⟩,
    ⟨some 18, none, .faddr 0 (.tmp 17)⟩,
    ⟨some 19, none, .ld none (.tmp 18)⟩,
    ⟨some 20, none, .mv (.tmp 1)⟩,
    ⟨some 21, none, .bin .neq (.tmp 19) (.tmp 20)⟩,
    ⟨some 22, none, .mv (.tmp 21)⟩,
    ⟨some 23, (some (22, false)), .mv (.tmp 0)⟩,
    ⟨some 24, (some (22, false)), .mv (.tmp 8)⟩,
    ⟨some 25, (some (22, false)), .iaS 4 (.tmp 23) (.tmp 24)⟩,
    ⟨some 26, (some (22, false)), .faddr 1 (.tmp 25)⟩,
    ⟨some 27, (some (22, false)), .ld none (.tmp 26)⟩,
    ⟨some 28, (some (22, false)), .mv (.tmp 2)⟩,
    ⟨some 29, (some (22, false)), .bin .neq (.tmp 27) (.tmp 28)⟩,
    ⟨some 30, none, .pick (.tmp 22) (.val (.bool true)) (.tmp 29)⟩] [] [0, 1, 2, 7, 8, 30])
  (.cond (.tmp 30)
  (.reg [⟨some 31, none, .mv (.tmp 7)⟩,
    ⟨some 32, none, .mv (.tmp 0)⟩,
    ⟨some 33, none, .mv (.tmp 8)⟩,
    ⟨some 34, none, .iaS 4 (.tmp 32) (.tmp 33)⟩,
    ⟨some 35, none, .ld (some 4) (.tmp 34)⟩,
    ⟨some 36, none, .bsl 1 4 [(.int .i64 0), (.int .i64 0), (.int .i64 0), (.int .i64 0)] [(0, 4, (.tmp 35))]⟩,
    ⟨some 37, none, .app 45 4 32 (.tmp 31) (.tmp 36)⟩,
    ⟨some 7, none, .mv (.tmp 37)⟩] [] [0, 1, 2, 7, 8])
  (.skip))))
  (.reg [⟨some 13, none, .mv (.tmp 8)⟩,
    ⟨some 14, none, .bin .add (.tmp 13) (.val (.int .i64 1))⟩,
    ⟨some 8, none, .mv (.tmp 14)⟩] [] [0, 1, 2, 7, 8]))))))
  (.seq
  (.reg [⟨some 38, none, .mv (.tmp 7)⟩,
    ⟨some 6, none, .mv (.tmp 38)⟩] [] [6])
  (.ret))))⟩
theorem pf42_ok : fnOk Try.prog 42 pf42 = true := by kernel_rfl

/-- hinterland/hinterlandref07.Beyond -/
def pf43 : PFn := ⟨37, 3, [.tmp 6, .tmp 7], .seq
  (.reg [⟨some 3, none, .boxp 25 (.tmp 0)⟩,
    ⟨some 5, none, .boxp 48 (.tmp 2)⟩,
    ⟨some 6, none, .mv (.val (.list .nil 1 []))⟩,
    ⟨some 7, none, .mv (.val (.int .i64 0))⟩] [] [1, 3, 5])
  (.seq
  (.seq
  (.reg [⟨some 11, none, .ld (some 4) (.tmp 3)⟩,
    ⟨some 12, none, .mv (.tmp 1)⟩,
    ⟨some 13, none, .call 18 .pure [(.tmp 11), (.tmp 12)]⟩,
    ⟨some 8, none, .mv (.tmp 13)⟩] [] [1, 3, 5, 8])
  (.seq
  (.reg [⟨some 14, none, .mv (.tmp 8)⟩,
    ⟨some 15, none, .bin .neq (.tmp 14) (.val (.int .i64 0))⟩] [] [1, 3, 5, 8, 15])
  (.cond (.tmp 15)
  (.seq
  (.reg [⟨some 16, none, .mv (.tmp 8)⟩,
    ⟨some 6, none, .mv (.val (.list .nil 1 []))⟩,
    ⟨some 7, none, .mv (.tmp 16)⟩] [] [6, 7])
  (.ret))
  (.skip))))
  (.seq
  (.seq
  (.reg [⟨some 18, none, .ld (some 4) (.tmp 3)⟩,
    ⟨some 19, none, .ld (some 3) (.tmp 5)⟩,
    ⟨some 20, none, .call 64 .pure [(.tmp 18), (.tmp 19)]⟩,
    ⟨some 17, none, .mv (.tmp 20)⟩,
    ⟨some 21, none, .ext 0 (.tmp 17)⟩,
    ⟨some 22, none, .ext 1 (.tmp 17)⟩,
    ⟨some 9, none, .mv (.tmp 21)⟩,
    ⟨some 10, none, .mv (.tmp 22)⟩] [] [1, 3, 5, 10])
  (.seq
  (.reg [⟨some 23, none, .mv (.tmp 10)⟩,
    ⟨some 24, none, .bin .neq (.tmp 23) (.val (.int .i64 0))⟩] [] [1, 3, 5, 10, 24])
  (.cond (.tmp 24)
  (.seq
  (.reg [⟨some 25, none, .mv (.tmp 10)⟩,
    ⟨some 6, none, .mv (.val (.list .nil 1 []))⟩,
    ⟨some 7, none, .mv (.tmp 25)⟩] [] [6, 7])
  (.ret))
  (.skip))))
  (.seq
  (.reg [⟨some 26, none, .ld (some 4) (.tmp 3)⟩,
    ⟨some 27, none, .ld (some 4) (.tmp 3)⟩,
    ⟨some 28, none, .mv (.tmp 1)⟩,
    ⟨some 29, none, .call 56 .pure [(.tmp 27), (.tmp 28)]⟩,
    ⟨some 30, none, .faddr 0 (.tmp 5)⟩,
    ⟨some 31, none, .ld none (.tmp 30)⟩,
    ⟨some 32, none, .faddr 1 (.tmp 5)⟩,
    ⟨some 33, none, .ld none (.tmp 32)⟩,
    ⟨some 34, none, .faddr 2 (.tmp 5)⟩,
    ⟨some 35, none, .ld none (.tmp 34)⟩,
    ⟨some 36, none, .call 78 .pure [(.tmp 26), (.tmp 29), (.tmp 31), (.tmp 33), (.tmp 35)]⟩,
    ⟨some 6, none, .mv (.tmp 36)⟩,
    ⟨some 7, none, .mv (.val (.int .i64 0))⟩] [] [6, 7])
  (.ret))))⟩
theorem pf43_ok : fnOk Try.prog 43 pf43 = true := by kernel_rfl

/-- hinterland/block.Beyond -/
def pf44 : PFn := ⟨31, 3, [.tmp 6, .tmp 7], .seq
  (.reg [⟨some 3, none, .boxp 25 (.tmp 0)⟩,
    ⟨some 5, none, .boxp 48 (.tmp 2)⟩,
    ⟨some 6, none, .mv (.val (.list .nil 1 []))⟩,
    ⟨some 7, none, .mv (.val (.int .i64 0))⟩] [] [1, 3, 5])
  (.seq
  (.seq
  (.reg [⟨some 11, none, .ld (some 4) (.tmp 3)⟩,
    ⟨some 12, none, .mv (.tmp 1)⟩,
    ⟨some 13, none, .call 19 .pure [(.tmp 11), (.tmp 12)]⟩,
    ⟨some 8, none, .mv (.tmp 13)⟩] [] [1, 3, 5, 8])
  (.seq
  (.reg [⟨some 14, none, .mv (.tmp 8)⟩,
    ⟨some 15, none, .bin .neq (.tmp 14) (.val (.int .i64 0))⟩] [] [1, 3, 5, 8, 15])
  (.cond (.tmp 15)
  (.seq
  (.reg [⟨some 16, none, .mv (.tmp 8)⟩,
    ⟨some 6, none, .mv (.val (.list .nil 1 []))⟩,
    ⟨some 7, none, .mv (.tmp 16)⟩] [] [6, 7])
  (.ret))
  (.skip))))
  (.seq
  (.reg [⟨some 18, none, .ld (some 4) (.tmp 3)⟩,
    ⟨some 19, none, .ld (some 3) (.tmp 5)⟩,
    ⟨some 20, none, .call 65 .pure [(.tmp 18), (.tmp 19)]⟩,
    ⟨some 17, none, .mv (.tmp 20)⟩,
    ⟨some 21, none, .ext 0 (.tmp 17)⟩,
    ⟨some 22, none, .ext 1 (.tmp 17)⟩,
    ⟨some 9, none, .mv (.tmp 21)⟩,
    ⟨some 10, none, .mv (.tmp 22)⟩] [] [1, 3, 9, 10])
  (.seq
  (.seq
  (.reg [⟨some 23, none, .mv (.tmp 10)⟩,
    ⟨some 24, none, .bin .neq (.tmp 23) (.val (.int .i64 0))⟩] [] [1, 3, 9, 10, 24])
  (.cond (.tmp 24)
  (.seq
  (.reg [⟨some 25, none, .mv (.tmp 10)⟩,
    ⟨some 6, none, .mv (.val (.list .nil 1 []))⟩,
    ⟨some 7, none, .mv (.tmp 25)⟩] [] [6, 7])
  (.ret))
  (.skip)))
  (.seq
  (.reg [⟨some 26, none, .ld (some 4) (.tmp 3)⟩,
    ⟨some 27, none, .mv (.tmp 1)⟩,
    ⟨some 28, none, .call 58 .pure [(.tmp 26), (.tmp 27)]⟩,
    ⟨some 29, none, .mv (.tmp 9)⟩,
    ⟨some 30, none, .call 79 .pure [(.tmp 28), (.tmp 29)]⟩,
    ⟨some 6, none, .mv (.tmp 30)⟩,
    ⟨some 7, none, .mv (.val (.int .i64 0))⟩] [] [6, 7])
  (.ret)))))⟩
theorem pf44_ok : fnOk Try.prog 44 pf44 = true := by kernel_rfl

/-- hinterland/hinterlandsame.List[int] -/
def pf45 : PFn := ⟨26, 2, [.tmp 4], .seq
  (.reg [⟨some 4, none, .mv (.val (.bool false))⟩] [] [0, 1])
  (.seq
  (.seq
  (.reg [⟨some 6, none, .mv (.tmp 0)⟩,
    ⟨some 7, none, .len (.tmp 6)⟩,
    ⟨some 8, none, .mv (.tmp 1)⟩,
    ⟨some 9, none, .len (.tmp 8)⟩,
    ⟨some 10, none, .bin .neq (.tmp 7) (.tmp 9)⟩] [] [0, 1, 10])
  (.cond (.tmp 10)
  (.seq
  (.reg [⟨some 4, none, .mv (.val (.bool false))⟩] [] [4])
  (.ret))
  (.skip)))
  (.seq
  (.seq
  (.reg [⟨some 5, none, .mv (.val (.int .i64 0))⟩] [] [0, 1, 5])
  (.blk 0 (.loop (.seq
  (.seq
  (.reg [⟨some 11, none, .mv (.tmp 5)⟩,
    ⟨some 12, none, .mv (.tmp 0)⟩,
    ⟨some 13, none, .len (.tmp 12)⟩,
    ⟨some 14, none, .bin .lss (.tmp 11) (.tmp 13)⟩] [] [0, 1, 5, 14])
  (.cond (.tmp 14)
  (.skip)
  (.ext 0)))
  (.seq
  (.blk 1 (.seq
  (.reg [⟨some 17, none, .mv (.tmp 0)⟩,
    ⟨some 18, none, .mv (.tmp 5)⟩,
    ⟨some 19, none, .iaS 1 (.tmp 17) (.tmp 18)⟩,
    ⟨some 20, none, .ld none (.tmp 19)⟩,
    ⟨some 21, none, .mv (.tmp 1)⟩,
    ⟨some 22, none, .mv (.tmp 5)⟩,
    ⟨some 23, none, .iaS 1 (.tmp 21) (.tmp 22)⟩,
    ⟨some 24, none, .ld none (.tmp 23)⟩,
    ⟨some 25, none, .bin .neq (.tmp 20) (.tmp 24)⟩] [] [0, 1, 5, 25])
  (.cond (.tmp 25)
  (.seq
  (.reg [⟨some 4, none, .mv (.val (.bool false))⟩] [] [4])
  (.ret))
  (.skip))))
  (.reg [⟨some 15, none, .mv (.tmp 5)⟩,
    ⟨some 16, none, .bin .add (.tmp 15) (.val (.int .i64 1))⟩,
    ⟨some 5, none, .mv (.tmp 16)⟩] [] [0, 1, 5]))))))
  (.seq
  (.reg [⟨some 4, none, .mv (.val (.bool true))⟩] [] [4])
  (.ret))))⟩
theorem pf45_ok : fnOk Try.prog 45 pf45 = true := by kernel_rfl

/-- hinterland/hinterlandref07.Shows -/
def pf46 : PFn := ⟨190, 3, [.tmp 6, .tmp 7], .seq
  (.reg [⟨some 3, none, .boxp 25 (.tmp 0)⟩,
    ⟨some 6, none, .mv (.val (.list .nil 1 []))⟩,
    ⟨some 7, none, .mv (.val (.int .i64 0))⟩] [] [1, 2, 3])
  (.seq
  (.seq
  (.reg [⟨some 20, none, .ld (some 4) (.tmp 3)⟩,
    ⟨some 21, none, .mv (.tmp 1)⟩,
    ⟨some 22, none, .call 18 .pure [(.tmp 20), (.tmp 21)]⟩,
    ⟨some 8, none, .mv (.tmp 22)⟩] [] [1, 2, 3, 8])
  (.seq
  (.reg [⟨some 23, none, .mv (.tmp 8)⟩,
    ⟨some 24, none, .bin .neq (.tmp 23) (.val (.int .i64 0))⟩] [] [1, 2, 3, 8, 24])
  (.cond (.tmp 24)
  (.seq
  (.reg [⟨some 25, none, .mv (.tmp 8)⟩,
    ⟨some 6, none, .mv (.val (.list .nil 1 []))⟩,
    ⟨some 7, none, .mv (.tmp 25)⟩] [] [6, 7])
  (.ret))
  (.skip))))
  (.seq
  (.reg [⟨some 26, none, .ld (some 4) (.tmp 3)⟩,
    ⟨some 27, none, .mv (.tmp 1)⟩,
    ⟨some 28, none, .call 56 .pure [(.tmp 26), (.tmp 27)]⟩,
    ⟨some 9, none, .mv (.tmp 28)⟩] [] [1, 2, 3, 9])
  (.seq
  (.reg [⟨some 29, none, .mv (.tmp 1)⟩,
    ⟨some 30, none, .len (.tmp 29)⟩,
    ⟨some 31, none, .mks 4 1 1 [(.bool false)] (.tmp 30) (.tmp 30)⟩,
    ⟨some 10, none, .mv (.tmp 31)⟩] [] [1, 2, 3, 9, 10])
  (.seq
  (.seq
  (.reg [⟨some 11, none, .mv (.val (.bool true))⟩] [] [1, 2, 3, 9, 10, 11])
  (.blk 0 (.loop (.seq
  (.seq
  (.reg [⟨some 32, none, .mv (.tmp 11)⟩] [] [1, 2, 3, 9, 10, 32])
  (.cond (.tmp 32)
  (.skip)
  (.ext 0)))
  (.blk 1 (.seq
  (.reg [⟨some 11, none, .mv (.val (.bool false))⟩] [] [1, 2, 3, 9, 10, 11])
  (.seq
  (.reg [⟨some 12, none, .mv (.val (.int .i64 0))⟩] [] [1, 2, 3, 9, 10, 11, 12])
  (.blk 2 (.loop (.seq
  (.seq
  (.reg [⟨some 33, none, .mv (.tmp 12)⟩,
    ⟨some 34, none, .mv (.tmp 1)⟩,
    ⟨some 35, none, .len (.tmp 34)⟩,
    ⟨some 36, none, .bin .lss (.tmp 33) (.tmp 35)⟩] [] [1, 2, 3, 9, 10, 11, 12, 36])
  (.cond (.tmp 36)
  (.skip)
  (.ext 2)))
  (.seq
  (.blk 3 (.seq
  (.seq
  (.reg [⟨some 39, none, .mv (.tmp 10)⟩,
    ⟨some 40, none, .mv (.tmp 12)⟩,
    ⟨some 41, none, .iaS 1 (.tmp 39) (.tmp 40)⟩,
    ⟨some 42, none, .ld none (.tmp 41)⟩] [] [1, 2, 3, 9, 10, 11, 12, 42])
  (.cond (.tmp 42)
  (.ext 3)
  (.skip)))
  (.seq
  (.reg [⟨some 43, none, .ld (some 4) (.tmp 3)⟩,
    ⟨some 44, none, .mv (.tmp 9)⟩,
    ⟨some 45, none, .mv (.tmp 1)⟩,
    ⟨some 46, none, .mv (.tmp 12)⟩,
    ⟨some 47, none, .iaS 4 (.tmp 45) (.tmp 46)⟩,
    ⟨some 48, none, .faddr 0 (.tmp 47)⟩,
    ⟨some 49, none, .ld none (.tmp 48)⟩,
    ⟨some 50, none, .mv (.tmp 1)⟩,
    ⟨some 51, none, .mv (.tmp 12)⟩,
    ⟨some 52, none, .iaS 4 (.tmp 50) (.tmp 51)⟩,
    ⟨some 53, none, .faddr 1 (.tmp 52)⟩,
    ⟨some 54, none, .ld none (.tmp 53)⟩,
    ⟨some 55, none, .mv (.tmp 1)⟩,
    ⟨some 56, none, .mv (.tmp 12)⟩,
    ⟨some 57, none, .iaS 4 (.tmp 55) (.tmp 56)⟩,
    ⟨some 58, none, .faddr 2 (.tmp 57)⟩,
    ⟨some 59, none, .ld none (.tmp 58)⟩,
    ⟨some 60, none, .call 78 .pure [(.tmp 43), (.tmp 44), (.tmp 49), (.tmp 54), (.tmp 59)]⟩,
    ⟨some 13, none, .mv (.tmp 60)⟩] [] [1, 2, 3, 9, 10, 11, 12, 13])
  (.seq
  (.reg [⟨some 61, none, .mv (.tmp 13)⟩,
    ⟨some 62, none, .len (.tmp 61)⟩,
    ⟨some 63, none, .bin .gtr (.tmp 62) (.val (.int .i64 0))⟩,
    ⟨some 14, none, .mv (.tmp 63)⟩] [] [1, 2, 3, 9, 10, 11, 12, 13, 14])
  (.seq
  (.seq
  (.reg [⟨some 15, none, .mv (.val (.int .i64 0))⟩] [] [1, 2, 3, 9, 10, 11, 12, 13, 14, 15])
  (.blk 4 (.loop (.seq
  (.seq
  (.reg [⟨some 64, none, .mv (.tmp 15)⟩,
    ⟨some 65, none, .mv (.tmp 13)⟩,
    ⟨some 66, none, .len (.tmp 65)⟩,
    ⟨some 67, none, .bin .lss (.tmp 64) (.tmp 66)⟩] [] [1, 2, 3, 9, 10, 11, 12, 13, 14, 15, 67])
  (.cond (.tmp 67)
  (.skip)
  (.ext 4)))
  (.seq
  (.blk 5 (.seq
  (.seq
  (.reg [⟨some 16, none, .mv (.val (.int .i64 0))⟩] [] [1, 2, 3, 9, 10, 11, 12, 13, 14, 15, 16])
  (.blk 6 (.loop (.seq
  (.seq
  (.reg [⟨some 70, none, .mv (.tmp 16)⟩,
    ⟨some 71, none, .mv (.tmp 2)⟩,
    ⟨some 72, none, .len (.tmp 71)⟩,
    ⟨some 73, none, .bin .lss (.tmp 70) (.tmp 72)⟩] [] [1, 2, 3, 9, 10, 11, 12, 13, 14, 15, 16, 73])
  (.cond (.tmp 73)
  (.skip)
  (.ext 6)))
  (.seq
  (.blk 7 (.reg [⟨some 76, none, .mv (.tmp 14)⟩,
    ⟨some 77, none, .mv (.tmp 76)⟩,
    ⟨some 78, (some (77, true)), .mv (.tmp 2)⟩,
    ⟨some 79, (some (77, true)), .mv (.tmp 16)⟩,
    ⟨some 80, (some (77, true)), .iaS 1 (.tmp 78) (.tmp 79)⟩,
    ⟨some 81, (some (77, true)), .ld none (.tmp 80)⟩,
    ⟨some 82, (some (77, true)), .mv (.tmp 13)⟩,
    ⟨some 83, (some (77, true)), .mv (.tmp 15)⟩,
    ⟨some 84, (some (77, true)), .iaS 1 (.tmp 82) (.tmp 83)⟩,
    ⟨some 85, (some (77, true)), .ld none (.tmp 84)⟩,
    ⟨some 86, (some (77, true)), .bin .neq (.tmp 81) (.tmp 85)⟩,
    ⟨some 87, none, .pick (.tmp 77) (.tmp 86) (.val (.bool false))⟩,
    ⟨some 14, none, .mv (.tmp 87)⟩] [] [1, 2, 3, 9, 10, 11, 12, 13, 14, 15, 16]))
  (.reg [⟨some 74, none, .mv (.tmp 16)⟩,
    ⟨some 75, none, .bin .add (.tmp 74) (.val (.int .i64 1))⟩,
    ⟨some 16, none, .mv (.tmp 75)⟩] [] [1, 2, 3, 9, 10, 11, 12, 13, 14, 15, 16]))))))
  (.seq
  (.seq
  (.reg [⟨some 88, none, .mv (.tmp 1)⟩,
    ⟨some 89, none, .mv (.tmp 12)⟩,
    ⟨some 90, none, .iaS 4 (.tmp 88) (.tmp 89)⟩,
    ⟨some 91, none, .faddr 3 (.tmp 90)⟩,
    ⟨some 92, none, .ld none (.tmp 91)⟩,
    ⟨some 93, none, .bin .neq (.tmp 92) (.val (.int .i64 1))⟩,
    ⟨some 94, none, .mv (.tmp 93)⟩,
    ⟨some 95, (some (94, true)), .mv (.tmp 1)⟩,
    ⟨some 96, (some (94, true)), .mv (.tmp 12)⟩,
    ⟨some 97, (some (94, true)), .iaS 4 (.tmp 95) (.tmp 96)⟩,
    ⟨some 98, (some (94, true)), .faddr 3 (.tmp 97)⟩,
    ⟨some 99, (some (94, true)), .ld none (.tmp 98)⟩,
    ⟨some 100, (some (94, true)), .bin .neq (.tmp 99) (.val (.int .i64 3))⟩,
    ⟨some 101, none, .pick (.tmp 94) (.tmp 100) (.val (.bool false))⟩] [] [1, 2, 3, 9, 10, 11, 12, 13, 14, 15, 101])
  (.cond (.tmp 101)
  (.ext 5)
  (.skip)))
  (.seq
  (.reg [⟨some 17, none, .mv (.val (.bool false))⟩,
    ⟨some 18, none, .mv (.val (.bool false))⟩] [] [1, 2, 3, 9, 10, 11, 12, 13, 14, 15, 17, 18])
  (.seq
  (.seq
  (.reg [⟨some 19, none, .mv (.val (.int .i64 0))⟩] [] [1, 2, 3, 9, 10, 11, 12, 13, 14, 15, 17, 18, 19])
  (.blk 8 (.loop (.seq
  (.seq
  (.reg [⟨some 102, none, .mv (.tmp 19)⟩,
    ⟨some 103, none, .mv (.tmp 1)⟩,
    ⟨some 104, none, .len (.tmp 103)⟩,
    ⟨some 105, none, .bin .lss (.tmp 102) (.tmp 104)⟩] [] [1, 2, 3, 9, 10, 11, 12, 13, 14, 15, 17, 18, 19, 105])
  (.cond (.tmp 105)
  (.skip)
  (.ext 8)))
  (.seq
  (.blk 9 (.seq
  (.seq
  (.reg [⟨some 108, none, .mv (.tmp 1)⟩,
    ⟨some 109, none, .mv (.tmp 19)⟩,
    ⟨some 110, none, .iaS 4 (.tmp 108) (.tmp 109)⟩,
    ⟨some 111, none, .faddr 3 (.tmp 110)⟩,
    ⟨some 112, none, .ld none (.tmp 111)⟩,
    ⟨some 113, none, .bin .neq (.tmp 112) (.val (.int .i64 2))⟩,
    ⟨some 114, none, .mv (.tmp 113)⟩,
    ⟨some 115, (some (114, true)), .mv (.tmp 1)⟩,
    ⟨some 116, (some (114, true)), .mv (.tmp 19)⟩,
    ⟨some 117, (some (114, true)), .iaS 4 (.tmp 115) (.tmp 116)⟩,
    ⟨some 118, (some (114, true)), .faddr 3 (.tmp 117)⟩,
    ⟨some 119, (some (114, true)), .ld none (.tmp 118)⟩,
    ⟨some 120, (some (114, true)), .bin .neq (.tmp 119) (.val (.int .i64 3))⟩,
    ⟨some 121, none, .pick (.tmp 114) (.tmp 120) (.val (.bool false))⟩,
    ⟨some 122, none, .mv (.tmp 121)⟩,
    ⟨some 123, (some (122, false)), .mv (.tmp 9)⟩,
    ⟨some 124, (some (122, false)), .mv (.tmp 1)⟩,
    ⟨some 125, (some (122, false)), .mv (.tmp 19)⟩,
    ⟨some 126, (some (122, false)), .iaS 4 (.tmp 124) (.tmp 125)⟩,
    ⟨some 127, (some (122, false)), .faddr 0 (.tmp 126)⟩,
    ⟨some 128, (some (122, false)), .ld none (.tmp 127)⟩,
    ⟨some 129, (some (122, false)), .bin .mul (.tmp 128) (.val (.int .i64 6))⟩,
    ⟨some 130, (some (122, false)), .mv (.tmp 1)⟩,
    ⟨some 131, (some (122, false)), .mv (.tmp 19)⟩,
    ⟨some 132, (some (122, false)), .iaS 4 (.tmp 130) (.tmp 131)⟩,
    ⟨some 133, (some (122, false)), .faddr 1 (.tmp 132)⟩,
    ⟨some 134, (some (122, false)), .ld none (.tmp 133)⟩,
    ⟨some 135, (some (122, false)), .bin .add (.tmp 129) (.tmp 134)⟩,
    ⟨some 136, (some (122, false)), .iaS 1 (.tmp 123) (.tmp 135)⟩,
    ⟨some 137, (some (122, false)), .ld none (.tmp 136)⟩,
    ⟨some 138, (some (122, false)), .mv (.tmp 13)⟩,
    ⟨some 139, (some (122, false)), .mv (.tmp 15)⟩,
    ⟨some 140, (some (122, false)), .iaS 1 (.tmp 138) (.tmp 139)⟩,
    ⟨some 141, (some (122, false)), .ld none (.tmp 140)⟩,
    ⟨some 142, (some (122, false)), .bin .neq (.tmp 137) (.tmp 141)⟩,
    ⟨some 143, none, .pick (.tmp 122) (.val (.bool true)) (.tmp 142)⟩,
    ⟨some 144, none, .mv (.tmp 143)⟩,
    ⟨some 145, (some (144, false)), .mv (.tmp 1)⟩,
    ⟨some 146, (some (144, false)), .mv (.tmp 19)⟩,
    ⟨some 147, (some (144, false)), .iaS 4 (.tmp 145) (.tmp 146)⟩,
    ⟨some 148, (some (144, false)), .faddr 0 (.tmp 147)⟩,
    ⟨some 149, (some (144, false)), .ld none (.tmp 148)⟩,
    ⟨some 150, (some (144, false)), .mv (.tmp 1)⟩,
    ⟨some 151, (some (144, false)), .mv (.tmp 12)⟩,
    ⟨some 152, (some (144, false)), .iaS 4 (.tmp 150) (.tmp 151)⟩,
    ⟨some 153, (some (144, false)), .faddr 0 (.tmp 152)⟩,
    ⟨some 154, (some (144, false)), .ld none (.tmp 153)⟩,
    ⟨some 155, (some (144, false)), .bin .eql (.tmp 149) (.tmp 154)⟩,
    ⟨some 156, (some (144, false)), .mv (.tmp 155)⟩,
    ⟨some 157, (some (156, true)), .mv (.tmp 1)⟩,
    ⟨some 158, (some (156, true)), .mv (.tmp 19)⟩,
    ⟨some 159, (some (156, true)), .iaS 4 (.tmp 157) (.tmp 158)⟩,
    ⟨some 160, (some (156, true)), .faddr 1 (.tmp 159)⟩,
    ⟨some 161, (some (156, true)), .ld none (.tmp 160)⟩,
    ⟨some 162, (some (156, true)), .mv (.tmp 1)⟩,
    ⟨some 163, (some (156, true)), .mv (.tmp 12)⟩,
    ⟨some 164, (some (156, true)), .iaS 4 (.tmp 162) (.tmp 163)⟩,
    ⟨some 165, (some (156, true)), .faddr 1 (.tmp 164)⟩,
    ⟨some 166, (some (156, true)), .ld none (.tmp 165)⟩,
    ⟨some 167, (some (156, true)), .bin .eql (.tmp 161) (.tmp 166)⟩,
    ⟨some 168, (some (144, false)), .pick (.tmp 156) (.tmp 167) (.val (.bool false))⟩,
    ⟨some 169, none, .pick (.tmp 144) (.val (.bool true)) (.tmp 168)⟩] [] [1, 2, 3, 9, 10, 11, 12, 13, 14, 15, 17, 18, 19, 169])
  (.cond (.tmp 169)
  (.ext 9)
  (.skip)))
  (.seq
  (.reg [⟨some 17, none, .mv (.val (.bool true))⟩] [] [1, 2, 3, 9, 10, 11, 12, 13, 14, 15, 17, 18, 19])
  (.reg [⟨some 170, none, .mv (.tmp 18)⟩,
    ⟨some 171, none, .mv (.tmp 170)⟩,
    ⟨some 172, (some (171, false)), .mv (.tmp 10)⟩,
    ⟨some 173, (some (171, false)), .mv (.tmp 19)⟩,
    ⟨some 174, (some (171, false)), .iaS 1 (.tmp 172) (.tmp 173)⟩,
    ⟨some 175, (some (171, false)), .ld none (.tmp 174)⟩,
    ⟨some 176, none, .pick (.tmp 171) (.val (.bool true)) (.tmp 175)⟩,
    ⟨some 18, none, .mv (.tmp 176)⟩] [] [1, 2, 3, 9, 10, 11, 12, 13, 14, 15, 17, 18, 19]))))
  (.reg [⟨some 106, none, .mv (.tmp 19)⟩,
    ⟨some 107, none, .bin .add (.tmp 106) (.val (.int .i64 1))⟩,
    ⟨some 19, none, .mv (.tmp 107)⟩] [] [1, 2, 3, 9, 10, 11, 12, 13, 14, 15, 17, 18, 19]))))))
  (.reg [⟨some 177, none, .mv (.tmp 14)⟩,
    ⟨some 178, none, .mv (.tmp 177)⟩,
    ⟨some 179, (some (178, true)), .mv (.tmp 17)⟩,
    ⟨some 180, (some (178, true)), .un .not (.tmp 179)⟩,
    ⟨some 181, (some (178, true)), .mv (.tmp 180)⟩,
    ⟨some 182, (some (181, false)), .mv (.tmp 18)⟩,
    ⟨some 183, (some (178, true)), .pick (.tmp 181) (.val (.bool true)) (.tmp 182)⟩,
    ⟨some 184, none, .pick (.tmp 178) (.tmp 183) (.val (.bool false))⟩,
    ⟨some 14, none, .mv (.tmp 184)⟩] [] [1, 2, 3, 9, 10, 11, 12, 13, 14, 15]))))))
  (.reg [⟨some 68, none, .mv (.tmp 15)⟩,
    ⟨some 69, none, .bin .add (.tmp 68) (.val (.int .i64 1))⟩,
    ⟨some 15, none, .mv (.tmp 69)⟩] [] [1, 2, 3, 9, 10, 11, 12, 13, 14, 15]))))))
  (.seq
  (.reg [⟨some 185, none, .mv (.tmp 14)⟩] [] [1, 2, 3, 9, 10, 11, 12, 185])
  (.cond (.tmp 185)
  (.seq
  (.reg [⟨some 186, none, .mv (.tmp 10)⟩,
    ⟨some 187, none, .mv (.tmp 12)⟩,
    ⟨some 188, none, .iaS 1 (.tmp 186) (.tmp 187)⟩,
    ⟨none, none, .st 1 (.tmp 188) (.val (.bool true))⟩] [] [1, 2, 3, 9, 10, 12])
  (.reg [⟨some 11, none, .mv (.val (.bool true))⟩] [] [1, 2, 3, 9, 10, 11, 12]))
  (.skip))))))))
  (.reg [⟨some 37, none, .mv (.tmp 12)⟩,
    ⟨some 38, none, .bin .add (.tmp 37) (.val (.int .i64 1))⟩,
    ⟨some 12, none, .mv (.tmp 38)⟩] [] [1, 2, 3, 9, 10, 11, 12]))))))))))))
  (.seq
  (.reg [⟨some 189, none, .mv (.tmp 10)⟩,
    ⟨some 6, none, .mv (.tmp 189)⟩,
    ⟨some 7, none, .mv (.val (.int .i64 0))⟩] [] [6, 7])
  (.ret))))))⟩
theorem pf46_ok : fnOk Try.prog 46 pf46 = true := by kernel_rfl

/-- hinterland/block.Shows -/
def pf47 : PFn := ⟨84, 3, [.tmp 6, .tmp 7], .seq
  (.reg [⟨some 3, none, .boxp 25 (.tmp 0)⟩,
    ⟨some 6, none, .mv (.val (.list .nil 1 []))⟩,
    ⟨some 7, none, .mv (.val (.int .i64 0))⟩] [] [1, 2, 3])
  (.seq
  (.seq
  (.reg [⟨some 18, none, .ld (some 4) (.tmp 3)⟩,
    ⟨some 19, none, .mv (.tmp 1)⟩,
    ⟨some 20, none, .call 19 .pure [(.tmp 18), (.tmp 19)]⟩,
    ⟨some 8, none, .mv (.tmp 20)⟩] [] [1, 2, 3, 8])
  (.seq
  (.reg [⟨some 21, none, .mv (.tmp 8)⟩,
    ⟨some 22, none, .bin .neq (.tmp 21) (.val (.int .i64 0))⟩] [] [1, 2, 3, 8, 22])
  (.cond (.tmp 22)
  (.seq
  (.reg [⟨some 23, none, .mv (.tmp 8)⟩,
    ⟨some 6, none, .mv (.val (.list .nil 1 []))⟩,
    ⟨some 7, none, .mv (.tmp 23)⟩] [] [6, 7])
  (.ret))
  (.skip))))
  (.seq
  (.reg [⟨some 24, none, .ld (some 4) (.tmp 3)⟩,
    ⟨some 25, none, .mv (.tmp 1)⟩,
    ⟨some 26, none, .call 58 .pure [(.tmp 24), (.tmp 25)]⟩,
    ⟨some 9, none, .mv (.tmp 26)⟩] [] [1, 2, 3, 9])
  (.seq
  (.reg [⟨some 27, none, .ld (some 4) (.tmp 3)⟩,
    ⟨some 28, none, .mv (.tmp 1)⟩,
    ⟨some 29, none, .mv (.tmp 9)⟩,
    ⟨some 30, none, .mv (.tmp 2)⟩,
    ⟨some 31, none, .call 80 .pure [(.tmp 27), (.tmp 28), (.tmp 29), (.tmp 30)]⟩,
    ⟨some 10, none, .mv (.tmp 31)⟩] [] [1, 9, 10])
  (.seq
  (.reg [⟨some 32, none, .mv (.tmp 1)⟩,
    ⟨some 33, none, .len (.tmp 32)⟩,
    ⟨some 34, none, .mks 4 1 1 [(.bool false)] (.tmp 33) (.tmp 33)⟩,
    ⟨some 11, none, .mv (.tmp 34)⟩] [] [1, 9, 10, 11])
  (.seq
  (.seq
  (.reg [⟨some 12, none, .mv (.val (.bool true))⟩] [] [1, 9, 10, 11, 12])
  (.blk 0 (.loop (.trim (.seq
  (.seq
  (.reg [⟨some 35, none, .mv (.tmp 12)⟩] [] [1, 9, 10, 11, 35])
  (.cond (.tmp 35)
  (.skip)
  (.ext 0)))
  (.blk 1 (.seq
  (.reg [⟨some 12, none, .mv (.val (.bool false))⟩] [] [1, 9, 10, 11, 12])
  (.seq
  (.reg [⟨some 36, none, .mv (.tmp 10)⟩,
    ⟨some 37, none, .len (.tmp 36)⟩,
    ⟨some 38, none, .mv (.val (.int .i64 0))⟩] [] [1, 9, 10, 11, 12, 36, 37, 38])
  (.blk 2 (.loop (.trim (.seq
  (.reg [⟨some 39, none, .bin .lss (.tmp 38) (.tmp 37)⟩] [] [1, 9, 10, 11, 12, 36, 37, 38, 39])
  (.seq
  (.cond (.tmp 39)
  (.skip)
  (.ext 2))
  (.seq
  (.blk 3 (.seq
  (.reg [⟨some 40, none, .mv (.tmp 38)⟩,
    ⟨some 41, none, .iaS 3 (.tmp 36) (.tmp 38)⟩,
    ⟨some 42, none, .ld (some 3) (.tmp 41)⟩,
    ⟨some 14, none, .zer 110 (.agg [(.list .nil 1 []), (.bool false), (.bool false)])⟩,
    ⟨some 13, none, .mv (.tmp 40)⟩,
    ⟨none, none, .st 3 (.tmp 14) (.tmp 42)⟩] [] [1, 9, 10, 11, 12, 13, 14, 36, 37, 38])
  (.seq
  (.seq
  (.reg [⟨some 43, none, .mv (.tmp 11)⟩,
    ⟨some 44, none, .mv (.tmp 13)⟩,
    ⟨some 45, none, .iaS 1 (.tmp 43) (.tmp 44)⟩,
    ⟨some 46, none, .ld none (.tmp 45)⟩,
    ⟨some 47, none, .mv (.tmp 46)⟩,
    ⟨some 48, (some (47, false)), .faddr 1 (.tmp 14)⟩,
    ⟨some 49, (some (47, false)), .ld none (.tmp 48)⟩,
    ⟨some 50, (some (47, false)), .un .not (.tmp 49)⟩,
    ⟨some 51, none, .pick (.tmp 47) (.val (.bool true)) (.tmp 50)⟩] [] [1, 9, 10, 11, 12, 13, 14, 36, 37, 38, 51])
  (.cond (.tmp 51)
  (.ext 3)
  (.skip)))
  (.seq
  (.reg [⟨some 15, none, .mv (.val (.bool true))⟩] [] [1, 9, 10, 11, 12, 13, 14, 15, 36, 37, 38])
  (.seq
  (.seq
  (.reg [⟨some 52, none, .faddr 0 (.tmp 14)⟩,
    ⟨some 53, none, .ld none (.tmp 52)⟩,
    ⟨some 54, none, .len (.tmp 53)⟩,
    ⟨some 55, none, .mv (.val (.int .i64 0))⟩] [] [1, 9, 10, 11, 12, 13, 14, 15, 36, 37, 38, 53, 54, 55])
  (.blk 4 (.loop (.seq
  (.reg [⟨some 56, none, .bin .lss (.tmp 55) (.tmp 54)⟩] [] [1, 9, 10, 11, 12, 13, 14, 15, 36, 37, 38, 53, 54, 55, 56])
  (.seq
  (.cond (.tmp 56)
  (.skip)
  (.ext 4))
  (.seq
  (.blk 5 (.seq
  (.reg [⟨some 57, none, .iaS 1 (.tmp 53) (.tmp 55)⟩,
    ⟨some 58, none, .ld none (.tmp 57)⟩,
    ⟨some 17, none, .mv (.tmp 58)⟩] [] [1, 9, 10, 11, 12, 13, 14, 15, 17, 36, 37, 38, 53, 54, 55])
  (.reg [⟨some 59, none, .mv (.tmp 15)⟩,
    ⟨some 60, none, .mv (.tmp 59)⟩,
    ⟨some 61, (some (60, true)), .faddr 2 (.tmp 14)⟩,
    ⟨some 62, (some (60, true)), .ld none (.tmp 61)⟩,
    ⟨some 63, (some (60, true)), .un .not (.tmp 62)⟩,
    ⟨some 64, (some (60, true)), .mv (.tmp 63)⟩,
    ⟨some 65, (some (64, false)), .mv (.tmp 1)⟩,
    ⟨some 66, (some (64, false)), .mv (.tmp 9)⟩,
    ⟨some 67, (some (64, false)), .mv (.tmp 11)⟩,
    ⟨some 68, (some (64, false)), .mv (.tmp 13)⟩,
    ⟨some 69, (some (64, false)), .mv (.tmp 17)⟩,
    ⟨some 70, (some (64, false)), .call 81 .pure [(.tmp 65), (.tmp 66), (.tmp 67), (.tmp 68), (.tmp 69)]⟩,
    ⟨some 71, (some (60, true)), .pick (.tmp 64) (.val (.bool true)) (.tmp 70)⟩,
    ⟨some 72, none, .pick (.tmp 60) (.tmp 71) (.val (.bool false))⟩,
    ⟨some 15, none, .mv (.tmp 72)⟩] [] [1, 9, 10, 11, 12, 13, 14, 15, 36, 37, 38, 53, 54, 55])))
  (.reg [⟨some 73, none, .bin .add (.tmp 55) (.val (.int .i64 1))⟩,
    ⟨some 55, none, .mv (.tmp 73)⟩] [] [1, 9, 10, 11, 12, 13, 14, 15, 36, 37, 38, 53, 54, 55])))))))
  (.reg [⟨some 74, none, .mv (.tmp 11)⟩,
    ⟨some 75, none, .mv (.tmp 13)⟩,
    ⟨some 76, none, .mv (.tmp 15)⟩,
    ⟨some 77, none, .mv (.tmp 12)⟩,
    ⟨some 78, none, .mv (.tmp 77)⟩,
    ⟨some 79, (some (78, false)), .mv (.tmp 15)⟩,
    ⟨some 80, none, .pick (.tmp 78) (.val (.bool true)) (.tmp 79)⟩,
    ⟨some 81, none, .iaS 1 (.tmp 74) (.tmp 75)⟩,
    ⟨none, none, .st 1 (.tmp 81) (.tmp 76)⟩,
    ⟨some 12, none, .mv (.tmp 80)⟩] [] [1, 9, 10, 11, 12, 36, 37, 38]))))))
  (.reg [⟨some 82, none, .bin .add (.tmp 38) (.val (.int .i64 1))⟩,
    ⟨some 38, none, .mv (.tmp 82)⟩] [] [1, 9, 10, 11, 12, 36, 37, 38])))))))))))))))
  (.seq
  (.reg [⟨some 83, none, .mv (.tmp 11)⟩,
    ⟨some 6, none, .mv (.tmp 83)⟩,
    ⟨some 7, none, .mv (.val (.int .i64 0))⟩] [] [6, 7])
  (.ret)))))))⟩
theorem pf47_ok : fnOk Try.prog 47 pf47 = true := by kernel_rfl

/-- hinterland/hinterlandsame.List[bool] -/
def pf48 : PFn := ⟨26, 2, [.tmp 4], .seq
  (.reg [⟨some 4, none, .mv (.val (.bool false))⟩] [] [0, 1])
  (.seq
  (.seq
  (.reg [⟨some 6, none, .mv (.tmp 0)⟩,
    ⟨some 7, none, .len (.tmp 6)⟩,
    ⟨some 8, none, .mv (.tmp 1)⟩,
    ⟨some 9, none, .len (.tmp 8)⟩,
    ⟨some 10, none, .bin .neq (.tmp 7) (.tmp 9)⟩] [] [0, 1, 10])
  (.cond (.tmp 10)
  (.seq
  (.reg [⟨some 4, none, .mv (.val (.bool false))⟩] [] [4])
  (.ret))
  (.skip)))
  (.seq
  (.seq
  (.reg [⟨some 5, none, .mv (.val (.int .i64 0))⟩] [] [0, 1, 5])
  (.blk 0 (.loop (.seq
  (.seq
  (.reg [⟨some 11, none, .mv (.tmp 5)⟩,
    ⟨some 12, none, .mv (.tmp 0)⟩,
    ⟨some 13, none, .len (.tmp 12)⟩,
    ⟨some 14, none, .bin .lss (.tmp 11) (.tmp 13)⟩] [] [0, 1, 5, 14])
  (.cond (.tmp 14)
  (.skip)
  (.ext 0)))
  (.seq
  (.blk 1 (.seq
  (.reg [⟨some 17, none, .mv (.tmp 0)⟩,
    ⟨some 18, none, .mv (.tmp 5)⟩,
    ⟨some 19, none, .iaS 1 (.tmp 17) (.tmp 18)⟩,
    ⟨some 20, none, .ld none (.tmp 19)⟩,
    ⟨some 21, none, .mv (.tmp 1)⟩,
    ⟨some 22, none, .mv (.tmp 5)⟩,
    ⟨some 23, none, .iaS 1 (.tmp 21) (.tmp 22)⟩,
    ⟨some 24, none, .ld none (.tmp 23)⟩,
    ⟨some 25, none, .eqb true (.tmp 20) (.tmp 24)⟩] [] [0, 1, 5, 25])
  (.cond (.tmp 25)
  (.seq
  (.reg [⟨some 4, none, .mv (.val (.bool false))⟩] [] [4])
  (.ret))
  (.skip))))
  (.reg [⟨some 15, none, .mv (.tmp 5)⟩,
    ⟨some 16, none, .bin .add (.tmp 15) (.val (.int .i64 1))⟩,
    ⟨some 5, none, .mv (.tmp 16)⟩] [] [0, 1, 5]))))))
  (.seq
  (.reg [⟨some 4, none, .mv (.val (.bool true))⟩] [] [4])
  (.ret))))⟩
theorem pf48_ok : fnOk Try.prog 48 pf48 = true := by kernel_rfl

/-- hinterland/hinterlandref03.Validate -/
def pf49 : PFn := ⟨80, 1, [.tmp 2], .seq
  (.reg [⟨some 1, none, .boxp 25 (.tmp 0)⟩,
    ⟨some 2, none, .mv (.val (.int .i64 0))⟩] [] [1])
  (.seq
  (.seq
  (.reg [⟨some 4, none, .faddr 0 (.tmp 1)⟩,
    ⟨some 5, none, .ld none (.tmp 4)⟩,
    ⟨some 6, none, .bin .lss (.tmp 5) (.val (.int .i64 4))⟩,
    ⟨some 7, none, .mv (.tmp 6)⟩,
    ⟨some 8, (some (7, false)), .faddr 0 (.tmp 1)⟩,
    ⟨some 9, (some (7, false)), .ld none (.tmp 8)⟩,
    ⟨some 10, (some (7, false)), .bin .gtr (.tmp 9) (.val (.int .i64 32))⟩,
    ⟨some 11, none, .pick (.tmp 7) (.val (.bool true)) (.tmp 10)⟩,
    ⟨some 12, none, .mv (.tmp 11)⟩,
    ⟨some 13, (some (12, false)), .faddr 1 (.tmp 1)⟩,
    ⟨some 14, (some (12, false)), .ld none (.tmp 13)⟩,
    ⟨some 15, (some (12, false)), .bin .lss (.tmp 14) (.val (.int .i64 4))⟩,
    ⟨some 16, none, .pick (.tmp 12) (.val (.bool true)) (.tmp 15)⟩,
    ⟨some 17, none, .mv (.tmp 16)⟩,
    ⟨some 18, (some (17, false)), .faddr 1 (.tmp 1)⟩,
    ⟨some 19, (some (17, false)), .ld none (.tmp 18)⟩,
    ⟨some 20, (some (17, false)), .bin .gtr (.tmp 19) (.val (.int .i64 32))⟩,
    ⟨some 21, none, .pick (.tmp 17) (.val (.bool true)) (.tmp 20)⟩,
    ⟨some 22, none, .mv (.tmp 21)⟩,
    ⟨some 23, (some (22, false)), .faddr 2 (.tmp 1)⟩,
    ⟨some 24, (some (22, false)), .ld none (.tmp 23)⟩,
    ⟨some 25, (some (22, false)), .len (.tmp 24)⟩,
    ⟨some 26, (some (22, false)), .faddr 0 (.tmp 1)⟩,
    ⟨some 27, (some (22, false)), .ld none (.tmp 26)⟩,
    ⟨some 28, (some (22, false)), .faddr 1 (.tmp 1)⟩,
    ⟨some 29, (some (22, false)), .ld none (.tmp 28)⟩,
    ⟨some 30, (some (22, false)), .bin .mul (.tmp 27) (.tmp 29)⟩,
    ⟨some 31, (some (22, false)), .bin .neq (.tmp 25) (.tmp 30)⟩,
    ⟨some 32, none, .pick (.tmp 22) (.val (.bool true)) (.tmp 31)⟩,
    ⟨some 33, none, .mv (.tmp 32)⟩,
    ⟨some 34, (some (33, false)), .faddr 3 (.tmp 1)⟩,
    ⟨some 35, (some (33, false)), .ld none (.tmp 34)⟩,
    ⟨some 36, (some (33, false)), .len (.tmp 35)⟩,
    ⟨some 37, (some (33, false)), .faddr 0 (.tmp 1)⟩,
    ⟨some 38, (some (33, false)), .ld none (.tmp 37)⟩,
    ⟨some 39, (some (33, false)), .faddr 1 (.tmp 1)⟩,
    ⟨some 40, (some (33, false)), .ld none (.tmp 39)⟩,
    ⟨some 41, (some (33, false)), .bin .mul (.tmp 38) (.tmp 40)⟩,
    ⟨some 42, (some (33, false)), .bin .neq (.tmp 36) (.tmp 41)⟩,
    ⟨some 43, none, .pick (.tmp 33) (.val (.bool true)) (.tmp 42)⟩] [] [1, 43])
  (.cond (.tmp 43)
  (.seq
  (.reg [⟨some 2, none, .mv (.val (.int .i64 1))⟩] [] [2])
  (.ret))
  (.skip)))
  (.seq
  (.seq
  (.reg [⟨some 3, none, .mv (.val (.int .i64 0))⟩] [] [1, 3])
  (.blk 0 (.loop (.seq
  (.seq
  (.reg [⟨some 44, none, .mv (.tmp 3)⟩,
    ⟨some 45, none, .faddr 2 (.tmp 1)⟩,
    ⟨some 46, none, .ld none (.tmp 45)⟩,
    ⟨some 47, none, .len (.tmp 46)⟩,
    ⟨some 48, none, .bin .lss (.tmp 44) (.tmp 47)⟩] [] [1, 3, 48])
  (.cond (.tmp 48)
  (.skip)
  (.ext 0)))
  (.seq
  (.blk 1 (.seq
  (.reg [⟨some 51, none, .faddr 2 (.tmp 1)⟩,
    ⟨some 52, none, .ld none (.tmp 51)⟩,
    ⟨some 53, none, .mv (.tmp 3)⟩,
    ⟨some 54, none, .iaS 1 (.tmp 52) (.tmp 53)⟩,
    ⟨some 55, none, .ld none (.tmp 54)⟩,
    ⟨some 56, none, .bin .lss (.tmp 55) (.val (.int .i64 0))⟩,
    ⟨some 57, none, .mv (.tmp 56)⟩,
    ⟨some 58, (some (57, false)), .faddr 2 (.tmp 1)⟩,
    ⟨some 59, (some (57, false)), .ld none (.tmp 58)⟩,
    ⟨some 60, (some (57, false)), .mv (.tmp 3)⟩,
    ⟨some 61, (some (57, false)), .iaS 1 (.tmp 59) (.tmp 60)⟩,
    ⟨some 62, (some (57, false)), .ld none (.tmp 61)⟩,
    ⟨some 63, (some (57, false)), .bin .gtr (.tmp 62) (.val (.int .i64 63))⟩,
    ⟨some 64, none, .pick (.tmp 57) (.val (.bool true)) (.tmp 63)⟩,
    ⟨some 65, none, .mv (.tmp 64)⟩,
    ⟨some 66, (some (65, false)), .faddr 2 (.tmp 1)⟩,
    ⟨some 67, (some (65, false)), .ld none (.tmp 66)⟩,
    ⟨some 68, (some (65, false)), .mv (.tmp 3)⟩,
    ⟨some 69, (some (65, false)), .iaS 1 (.tmp 67) (.tmp 68)⟩,
    ⟨some 70, (some (65, false)), .ld none (.tmp 69)⟩,
    ⟨some 71, (some (65, false)), .bin .eql (.tmp 70) (.val (.int .i64 0))⟩,
    ⟨some 72, (some (65, false)), .mv (.tmp 71)⟩,
    ⟨some 73, (some (72, true)), .faddr 3 (.tmp 1)⟩,
    ⟨some 74, (some (72, true)), .ld none (.tmp 73)⟩,
    ⟨some 75, (some (72, true)), .mv (.tmp 3)⟩,
    ⟨some 76, (some (72, true)), .iaS 1 (.tmp 74) (.tmp 75)⟩,
    ⟨some 77, (some (72, true)), .ld none (.tmp 76)⟩,
    ⟨some 78, (some (65, false)), .pick (.tmp 72) (.tmp 77) (.val (.bool false))⟩,
    ⟨some 79, none, .pick (.tmp 65) (.val (.bool true)) (.tmp 78)⟩] [] [1, 3, 79])
  (.cond (.tmp 79)
  (.seq
  (.reg [⟨some 2, none, .mv (.val (.int .i64 1))⟩] [] [2])
  (.ret))
  (.skip))))
  (.reg [⟨some 49, none, .mv (.tmp 3)⟩,
    ⟨some 50, none, .bin .add (.tmp 49) (.val (.int .i64 1))⟩,
    ⟨some 3, none, .mv (.tmp 50)⟩] [] [1, 3]))))))
  (.seq
  (.reg [⟨some 2, none, .mv (.val (.int .i64 0))⟩] [] [2])
  (.ret))))⟩
theorem pf49_ok : fnOk Try.prog 49 pf49 = true := by kernel_rfl

/-- hinterland/hinterlandref07.less -/
def pf50 : PFn := ⟨30, 2, [.tmp 4], .seq
  (.reg [⟨some 2, none, .boxp 45 (.tmp 0)⟩,
    ⟨some 3, none, .boxp 45 (.tmp 1)⟩,
    ⟨some 4, none, .mv (.val (.bool false))⟩] [] [2, 3])
  (.seq
  (.seq
  (.reg [⟨some 5, none, .faddr 0 (.tmp 2)⟩,
    ⟨some 6, none, .ld none (.tmp 5)⟩,
    ⟨some 7, none, .faddr 0 (.tmp 3)⟩,
    ⟨some 8, none, .ld none (.tmp 7)⟩,
    ⟨some 9, none, .bin .neq (.tmp 6) (.tmp 8)⟩] [] [2, 3, 9])
  (.cond (.tmp 9)
  (.seq
  (.reg [⟨some 10, none, .faddr 0 (.tmp 2)⟩,
    ⟨some 11, none, .ld none (.tmp 10)⟩,
    ⟨some 12, none, .faddr 0 (.tmp 3)⟩,
    ⟨some 13, none, .ld none (.tmp 12)⟩,
    ⟨some 14, none, .bin .lss (.tmp 11) (.tmp 13)⟩,
    ⟨some 4, none, .mv (.tmp 14)⟩] [] [4])
  (.ret))
  (.skip)))
  (.seq
  (.seq
  (.reg [⟨some 15, none, .faddr 1 (.tmp 2)⟩,
    ⟨some 16, none, .ld none (.tmp 15)⟩,
    ⟨some 17, none, .faddr 1 (.tmp 3)⟩,
    ⟨some 18, none, .ld none (.tmp 17)⟩,
    ⟨some 19, none, .bin .neq (.tmp 16) (.tmp 18)⟩] [] [2, 3, 19])
  (.cond (.tmp 19)
  (.seq
  (.reg [⟨some 20, none, .faddr 1 (.tmp 2)⟩,
    ⟨some 21, none, .ld none (.tmp 20)⟩,
    ⟨some 22, none, .faddr 1 (.tmp 3)⟩,
    ⟨some 23, none, .ld none (.tmp 22)⟩,
    ⟨some 24, none, .bin .lss (.tmp 21) (.tmp 23)⟩,
    ⟨some 4, none, .mv (.tmp 24)⟩] [] [4])
  (.ret))
  (.skip)))
  (.seq
  (.reg [⟨some 25, none, .faddr 2 (.tmp 2)⟩,
    ⟨some 26, none, .ld none (.tmp 25)⟩,
    ⟨some 27, none, .faddr 2 (.tmp 3)⟩,
    ⟨some 28, none, .ld none (.tmp 27)⟩,
    ⟨some 29, none, .bin .lss (.tmp 26) (.tmp 28)⟩,
    ⟨some 4, none, .mv (.tmp 29)⟩] [] [4])
  (.ret))))⟩
theorem pf50_ok : fnOk Try.prog 50 pf50 = true := by kernel_rfl

/-- hinterland/hinterlandref03.Has -/
def pf51 : PFn := ⟨19, 2, [.tmp 4], .seq
  (.reg [⟨some 4, none, .mv (.val (.bool false))⟩] [] [0, 1])
  (.seq
  (.reg [⟨some 5, none, .mv (.tmp 1)⟩,
    ⟨some 6, none, .bin .geq (.tmp 5) (.val (.int .i64 0))⟩,
    ⟨some 7, none, .mv (.tmp 6)⟩,
    ⟨some 8, (some (7, true)), .mv (.tmp 0)⟩,
    ⟨some 9, (some (7, true)), .call 76 .pure [(.tmp 8)]⟩,
    ⟨some 10, (some (7, true)), .mv (.tmp 1)⟩,
    ⟨some 11, (some (7, true)), .bin .eql (.tmp 9) (.tmp 10)⟩,
    ⟨some 12, (some (7, true)), .mv (.tmp 11)⟩,
    ⟨some 13, (some (12, false)), .mv (.tmp 0)⟩,
    ⟨some 14, (some (12, false)), .call 82 .pure [(.tmp 13)]⟩,
    ⟨some 15, (some (12, false)), .mv (.tmp 1)⟩,
    ⟨some 16, (some (12, false)), .bin .eql (.tmp 14) (.tmp 15)⟩,
    ⟨some 17, (some (7, true)), .pick (.tmp 12) (.val (.bool true)) (.tmp 16)⟩,
    ⟨some 18, none, .pick (.tmp 7) (.tmp 17) (.val (.bool false))⟩,
    ⟨some 4, none, .mv (.tmp 18)⟩] [] [4])
  (.ret))⟩
theorem pf51_ok : fnOk Try.prog 51 pf51 = true := by kernel_rfl

/-- hinterland/rail.Validate -/
def pf52 : PFn := ⟨71, 1, [.tmp 2], .seq
  (.reg [⟨some 1, none, .boxp 25 (.tmp 0)⟩,
    ⟨some 2, none, .mv (.val (.int .i64 0))⟩] [] [1])
  (.seq
  (.seq
  (.reg [⟨some 5, none, .faddr 0 (.tmp 1)⟩,
    ⟨some 6, none, .ld none (.tmp 5)⟩,
    ⟨some 7, none, .bin .lss (.tmp 6) (.val (.int .i64 4))⟩,
    ⟨some 8, none, .mv (.tmp 7)⟩,
    ⟨some 9, (some (8, false)), .faddr 0 (.tmp 1)⟩,
    ⟨some 10, (some (8, false)), .ld none (.tmp 9)⟩,
    ⟨some 11, (some (8, false)), .bin .gtr (.tmp 10) (.val (.int .i64 32))⟩,
    ⟨some 12, none, .pick (.tmp 8) (.val (.bool true)) (.tmp 11)⟩,
    ⟨some 13, none, .mv (.tmp 12)⟩,
    ⟨some 14, (some (13, false)), .faddr 1 (.tmp 1)⟩,
    ⟨some 15, (some (13, false)), .ld none (.tmp 14)⟩,
    ⟨some 16, (some (13, false)), .bin .lss (.tmp 15) (.val (.int .i64 4))⟩,
    ⟨some 17, none, .pick (.tmp 13) (.val (.bool true)) (.tmp 16)⟩,
    ⟨some 18, none, .mv (.tmp 17)⟩,
    ⟨some 19, (some (18, false)), .faddr 1 (.tmp 1)⟩,
    ⟨some 20, (some (18, false)), .ld none (.tmp 19)⟩,
    ⟨some 21, (some (18, false)), .bin .gtr (.tmp 20) (.val (.int .i64 32))⟩,
    ⟨some 22, none, .pick (.tmp 18) (.val (.bool true)) (.tmp 21)⟩,
    ⟨some 23, none, .mv (.tmp 22)⟩,
    ⟨some 24, (some (23, false)), .faddr 2 (.tmp 1)⟩,
    ⟨some 25, (some (23, false)), .ld none (.tmp 24)⟩,
    ⟨some 26, (some (23, false)), .len (.tmp 25)⟩,
    ⟨some 27, (some (23, false)), .faddr 0 (.tmp 1)⟩,
    ⟨some 28, (some (23, false)), .ld none (.tmp 27)⟩,
    ⟨some 29, (some (23, false)), .faddr 1 (.tmp 1)⟩,
    ⟨some 30, (some (23, false)), .ld none (.tmp 29)⟩,
    ⟨some 31, (some (23, false)), .bin .mul (.tmp 28) (.tmp 30)⟩,
    ⟨some 32, (some (23, false)), .bin .neq (.tmp 26) (.tmp 31)⟩,
    ⟨some 33, none, .pick (.tmp 23) (.val (.bool true)) (.tmp 32)⟩,
    ⟨some 34, none, .mv (.tmp 33)⟩,
    ⟨some 35, (some (34, false)), .faddr 3 (.tmp 1)⟩,
    ⟨some 36, (some (34, false)), .ld none (.tmp 35)⟩,
    ⟨some 37, (some (34, false)), .len (.tmp 36)⟩,
    ⟨some 38, (some (34, false)), .faddr 0 (.tmp 1)⟩,
    ⟨some 39, (some (34, false)), .ld none (.tmp 38)⟩,
    ⟨some 40, (some (34, false)), .faddr 1 (.tmp 1)⟩,
    ⟨some 41, (some (34, false)), .ld none (.tmp 40)⟩,
    ⟨some 42, (some (34, false)), .bin .mul (.tmp 39) (.tmp 41)⟩,
    ⟨some 43, (some (34, false)), .bin .neq (.tmp 37) (.tmp 42)⟩,
    ⟨some 44, none, .pick (.tmp 34) (.val (.bool true)) (.tmp 43)⟩] [] [1, 44])
  (.cond (.tmp 44)
  (.seq
  (.reg [⟨some 2, none, .mv (.val (.int .i64 1))⟩] [] [2])
  (.ret))
  (.skip)))
  (.seq
  (.seq
  (.reg [⟨some 45, none, .faddr 2 (.tmp 1)⟩,
    ⟨some 46, none, .ld none (.tmp 45)⟩,
    ⟨some 47, none, .len (.tmp 46)⟩,
    ⟨some 48, none, .mv (.val (.int .i64 0))⟩] [] [1, 46, 47, 48])
  (.blk 0 (.loop (.seq
  (.reg [⟨some 49, none, .bin .lss (.tmp 48) (.tmp 47)⟩] [] [1, 46, 47, 48, 49])
  (.seq
  (.cond (.tmp 49)
  (.skip)
  (.ext 0))
  (.seq
  (.blk 1 (.seq
  (.reg [⟨some 50, none, .mv (.tmp 48)⟩,
    ⟨some 51, none, .iaS 1 (.tmp 46) (.tmp 48)⟩,
    ⟨some 52, none, .ld none (.tmp 51)⟩,
    ⟨some 3, none, .mv (.tmp 50)⟩,
    ⟨some 4, none, .mv (.tmp 52)⟩] [] [1, 3, 4, 46, 47, 48])
  (.seq
  (.reg [⟨some 53, none, .mv (.tmp 4)⟩,
    ⟨some 54, none, .bin .lss (.tmp 53) (.val (.int .i64 0))⟩,
    ⟨some 55, none, .mv (.tmp 54)⟩,
    ⟨some 56, (some (55, false)), .mv (.tmp 4)⟩,
    ⟨some 57, (some (55, false)), .bin .geq (.tmp 56) (.val (.int .i64 64))⟩,
    ⟨some 58, none, .pick (.tmp 55) (.val (.bool true)) (.tmp 57)⟩,
    ⟨some 59, none, .mv (.tmp 58)⟩,
    ⟨some 60, (some (59, false)), .mv (.tmp 4)⟩,
    ⟨some 61, (some (59, false)), .bin .eql (.tmp 60) (.val (.int .i64 0))⟩,
    ⟨some 62, (some (59, false)), .mv (.tmp 61)⟩,
    ⟨some 63, (some (62, true)), .faddr 3 (.tmp 1)⟩,
    ⟨some 64, (some (62, true)), .ld none (.tmp 63)⟩,
    ⟨some 65, (some (62, true)), .mv (.tmp 3)⟩,
    ⟨some 66, (some (62, true)), .iaS 1 (.tmp 64) (.tmp 65)⟩,
    ⟨some 67, (some (62, true)), .ld none (.tmp 66)⟩,
    ⟨some 68, (some (59, false)), .pick (.tmp 62) (.tmp 67) (.val (.bool false))⟩,
    ⟨some 69, none, .pick (.tmp 59) (.val (.bool true)) (.tmp 68)⟩] [] [1, 46, 47, 48, 69])
  (.cond (.tmp 69)
  (.seq
  (.reg [⟨some 2, none, .mv (.val (.int .i64 1))⟩] [] [2])
  (.ret))
  (.skip)))))
  (.reg [⟨some 70, none, .bin .add (.tmp 48) (.val (.int .i64 1))⟩,
    ⟨some 48, none, .mv (.tmp 70)⟩] [] [1, 46, 47, 48])))))))
  (.seq
  (.reg [⟨some 2, none, .mv (.val (.int .i64 0))⟩] [] [2])
  (.ret))))⟩
theorem pf52_ok : fnOk Try.prog 52 pf52 = true := by kernel_rfl

/-- hinterland/block.compare -/
def pf53 : PFn := ⟨22, 2, [.tmp 4], .seq
  (.reg [⟨some 2, none, .boxp 45 (.tmp 0)⟩,
    ⟨some 3, none, .boxp 45 (.tmp 1)⟩,
    ⟨some 4, none, .mv (.val (.int .i64 0))⟩] [] [2, 3])
  (.seq
  (.reg [⟨some 5, none, .faddr 0 (.tmp 2)⟩,
    ⟨some 6, none, .ld none (.tmp 5)⟩,
    ⟨some 7, none, .faddr 0 (.tmp 3)⟩,
    ⟨some 8, none, .ld none (.tmp 7)⟩,
    ⟨some 9, none, .call 84 .pure [(.tmp 6), (.tmp 8)]⟩,
    ⟨some 10, none, .faddr 1 (.tmp 2)⟩,
    ⟨some 11, none, .ld none (.tmp 10)⟩,
    ⟨some 12, none, .faddr 1 (.tmp 3)⟩,
    ⟨some 13, none, .ld none (.tmp 12)⟩,
    ⟨some 14, none, .call 84 .pure [(.tmp 11), (.tmp 13)]⟩,
    ⟨some 15, none, .faddr 2 (.tmp 2)⟩,
    ⟨some 16, none, .ld none (.tmp 15)⟩,
    ⟨some 17, none, .faddr 2 (.tmp 3)⟩,
    ⟨some 18, none, .ld none (.tmp 17)⟩,
    ⟨some 19, none, .call 84 .pure [(.tmp 16), (.tmp 18)]⟩,
    ⟨some 20, none, .bsl 3 1 [(.int .i64 0)] [(0, 1, (.tmp 9)), (1, 1, (.tmp 14)), (2, 1, (.tmp 19))]⟩,
    ⟨some 21, none, .call 83 .pure [(.tmp 20)]⟩,
    ⟨some 4, none, .mv (.tmp 21)⟩] [] [4])
  (.ret))⟩
theorem pf53_ok : fnOk Try.prog 53 pf53 = true := by kernel_rfl

/-- hinterland/block.lies -/
def pf54 : PFn := ⟨37, 3, [.tmp 6], .seq
  (.reg [⟨some 3, none, .boxp 25 (.tmp 0)⟩,
    ⟨some 6, none, .mv (.val (.bool false))⟩] [] [1, 2, 3])
  (.seq
  (.reg [⟨some 7, none, .mv (.tmp 1)⟩,
    ⟨some 8, none, .bin .geq (.tmp 7) (.val (.int .i64 0))⟩,
    ⟨some 9, none, .mv (.tmp 8)⟩,
    ⟨some 10, (some (9, true)), .mv (.tmp 1)⟩,
    ⟨some 11, (some (9, true)), .faddr 0 (.tmp 3)⟩,
    ⟨some 12, (some (9, true)), .ld none (.tmp 11)⟩,
    ⟨some 13, (some (9, true)), .faddr 1 (.tmp 3)⟩,
    ⟨some 14, (some (9, true)), .ld none (.tmp 13)⟩,
    ⟨some 15, (some (9, true)), .bin .mul (.tmp 12) (.tmp 14)⟩,
    ⟨some 16, (some (9, true)), .bin .lss (.tmp 10) (.tmp 15)⟩,
    ⟨some 17, none, .pick (.tmp 9) (.tmp 16) (.val (.bool false))⟩,
    ⟨some 18, none, .mv (.tmp 17)⟩,
    ⟨some 19, (some (18, true)), .mv (.tmp 2)⟩,
    ⟨some 20, (some (18, true)), .bin .geq (.tmp 19) (.val (.int .i64 0))⟩,
    ⟨some 21, none, .pick (.tmp 18) (.tmp 20) (.val (.bool false))⟩,
    ⟨some 22, none, .mv (.tmp 21)⟩,
    ⟨some 23, (some (22, true)), .mv (.tmp 2)⟩,
    ⟨some 24, (some (22, true)), .bin .lss (.tmp 23) (.val (.int .i64 6))⟩,
    ⟨some 25, none, .pick (.tmp 22) (.tmp 24) (.val (.bool false))⟩,
    ⟨some 26, none, .mv (.tmp 25)⟩,
    ⟨some 27, (some (26, true)), .faddr 2 (.tmp 3)⟩,
    ⟨some 28, (some (26, true)), .ld none (.tmp 27)⟩,
    ⟨some 29, (some (26, true)), .mv (.tmp 1)⟩,
    ⟨some 30, (some (26, true)), .iaS 1 (.tmp 28) (.tmp 29)⟩,
    ⟨some 31, (some (26, true)), .ld none (.tmp 30)⟩,
    ⟨some 32, (some (26, true)), .mv (.tmp 2)⟩,
    ⟨some 33, (some (26, true)), .bin .shr (.tmp 31) (.tmp 32)⟩,
    ⟨some 34, (some (26, true)), .bin .and (.tmp 33) (.val (.int .i64 1))⟩,
    ⟨some 35, (some (26, true)), .bin .eql (.tmp 34) (.val (.int .i64 1))⟩,
    ⟨some 36, none, .pick (.tmp 26) (.tmp 35) (.val (.bool false))⟩,
    ⟨some 6, none, .mv (.tmp 36)⟩] [] [6])
  (.ret))⟩
theorem pf54_ok : fnOk Try.prog 54 pf54 = true := by kernel_rfl

/-- hinterland/block.end -/
def pf55 : PFn := ⟨26, 2, [.tmp 4], .seq
  (.reg [⟨some 4, none, .mv (.val (.bool false))⟩] [] [0, 1])
  (.seq
  (.reg [⟨some 9, none, .mv (.tmp 0)⟩,
    ⟨some 10, none, .call 85 .pure [(.tmp 9)]⟩,
    ⟨some 8, none, .mv (.tmp 10)⟩,
    ⟨some 11, none, .ext 0 (.tmp 8)⟩,
    ⟨some 12, none, .ext 1 (.tmp 8)⟩,
    ⟨some 13, none, .ext 2 (.tmp 8)⟩,
    ⟨some 5, none, .mv (.tmp 11)⟩,
    ⟨some 6, none, .mv (.tmp 12)⟩,
    ⟨some 7, none, .mv (.tmp 13)⟩] [] [1, 5, 6, 7])
  (.seq
  (.reg [⟨some 14, none, .mv (.tmp 7)⟩,
    ⟨some 15, none, .bin .eql (.tmp 14) (.val (.int .i64 0))⟩,
    ⟨some 16, none, .mv (.tmp 15)⟩,
    ⟨some 17, (some (16, true)), .mv (.tmp 1)⟩,
    ⟨some 18, (some (16, true)), .mv (.tmp 5)⟩,
    ⟨some 19, (some (16, true)), .bin .eql (.tmp 17) (.tmp 18)⟩,
    ⟨some 20, (some (16, true)), .mv (.tmp 19)⟩,
    ⟨some 21, (some (20, false)), .mv (.tmp 1)⟩,
    ⟨some 22, (some (20, false)), .mv (.tmp 6)⟩,
    ⟨some 23, (some (20, false)), .bin .eql (.tmp 21) (.tmp 22)⟩,
    ⟨some 24, (some (16, true)), .pick (.tmp 20) (.val (.bool true)) (.tmp 23)⟩,
    ⟨some 25, none, .pick (.tmp 16) (.tmp 24) (.val (.bool false))⟩,
    ⟨some 4, none, .mv (.tmp 25)⟩] [] [4])
  (.ret)))⟩
theorem pf55_ok : fnOk Try.prog 55 pf55 = true := by kernel_rfl

/-- hinterland/hinterlandref07.numbers -/
def pf56 : PFn := ⟨232, 2, [.tmp 4], .seq
  (.reg [⟨some 2, none, .boxp 25 (.tmp 0)⟩,
    ⟨some 4, none, .mv (.val (.list .nil 1 []))⟩] [] [1, 2])
  (.seq
  (.reg [⟨some 21, none, .faddr 2 (.tmp 2)⟩,
    ⟨some 22, none, .ld none (.tmp 21)⟩,
    ⟨some 23, none, .len (.tmp 22)⟩,
    ⟨some 5, none, .mv (.tmp 23)⟩] [] [1, 2, 5])
  (.seq
  (.reg [⟨some 24, none, .mv (.tmp 5)⟩,
    ⟨some 25, none, .bin .mul (.val (.int .i64 6)) (.tmp 24)⟩,
    ⟨some 26, none, .mks 3 1 8 [(.int .i64 0)] (.tmp 25) (.tmp 25)⟩,
    ⟨some 6, none, .mv (.tmp 26)⟩] [] [1, 2, 5, 6])
  (.seq
  (.seq
  (.reg [⟨some 7, none, .mv (.val (.int .i64 0))⟩] [] [1, 2, 5, 6, 7])
  (.blk 0 (.loop (.seq
  (.seq
  (.reg [⟨some 27, none, .mv (.tmp 7)⟩,
    ⟨some 28, none, .mv (.tmp 6)⟩,
    ⟨some 29, none, .len (.tmp 28)⟩,
    ⟨some 30, none, .bin .lss (.tmp 27) (.tmp 29)⟩] [] [1, 2, 5, 6, 7, 30])
  (.cond (.tmp 30)
  (.skip)
  (.ext 0)))
  (.seq
  (.blk 1 (.reg [⟨some 33, none, .mv (.tmp 6)⟩,
    ⟨some 34, none, .mv (.tmp 7)⟩,
    ⟨some 35, none, .iaS 1 (.tmp 33) (.tmp 34)⟩,
    ⟨none, none, .st 1 (.tmp 35) (.val (.int .i64 (-1)))⟩] [] [1, 2, 5, 6, 7]))
  (.reg [⟨some 31, none, .mv (.tmp 7)⟩,
    ⟨some 32, none, .bin .add (.tmp 31) (.val (.int .i64 1))⟩,
    ⟨some 7, none, .mv (.tmp 32)⟩] [] [1, 2, 5, 6, 7]))))))
  (.seq
  (.reg [⟨some 36, none, .mv (.tmp 5)⟩,
    ⟨some 37, none, .bin .mul (.val (.int .i64 24)) (.tmp 36)⟩,
    ⟨some 38, none, .mks 4 1 1 [(.bool false)] (.tmp 37) (.tmp 37)⟩,
    ⟨some 8, none, .mv (.tmp 38)⟩] [] [1, 2, 6, 8])
  (.seq
  (.seq
  (.reg [⟨some 9, none, .mv (.val (.int .i64 0))⟩] [] [1, 2, 6, 8, 9])
  (.blk 2 (.loop (.seq
  (.seq
  (.reg [⟨some 39, none, .mv (.tmp 9)⟩,
    ⟨some 40, none, .mv (.tmp 1)⟩,
    ⟨some 41, none, .len (.tmp 40)⟩,
    ⟨some 42, none, .bin .lss (.tmp 39) (.tmp 41)⟩] [] [1, 2, 6, 8, 9, 42])
  (.cond (.tmp 42)
  (.skip)
  (.ext 2)))
  (.seq
  (.blk 3 (.reg [⟨some 45, none, .mv (.tmp 8)⟩,
    ⟨some 46, none, .mv (.tmp 1)⟩,
    ⟨some 47, none, .mv (.tmp 9)⟩,
    ⟨some 48, none, .iaS 4 (.tmp 46) (.tmp 47)⟩,
    ⟨some 49, none, .faddr 0 (.tmp 48)⟩,
    ⟨some 50, none, .ld none (.tmp 49)⟩,
    ⟨some 51, none, .bin .mul (.tmp 50) (.val (.int .i64 6))⟩,
    ⟨some 52, none, .mv (.tmp 1)⟩,
    ⟨some 53, none, .mv (.tmp 9)⟩,
    ⟨some 54, none, .iaS 4 (.tmp 52) (.tmp 53)⟩,
    ⟨some 55, none, .faddr 1 (.tmp 54)⟩,
    ⟨some 56, none, .ld none (.tmp 55)⟩,
    ⟨some 57, none, .bin .add (.tmp 51) (.tmp 56)⟩,
    ⟨some 58, none, .bin .mul (.tmp 57) (.val (.int .i64 4))⟩,
    ⟨some 59, none, .mv (.tmp 1)⟩,
    ⟨some 60, none, .mv (.tmp 9)⟩,
    ⟨some 61, none, .iaS 4 (.tmp 59) (.tmp 60)⟩,
    ⟨some 62, none, .faddr 2 (.tmp 61)⟩,
    ⟨some 63, none, .ld none (.tmp 62)⟩,
    ⟨some 64, none, .bin .add (.tmp 58) (.tmp 63)⟩,
    ⟨some 65, none, .iaS 1 (.tmp 45) (.tmp 64)⟩,
    ⟨none, none, .st 1 (.tmp 65) (.val (.bool true))⟩] [] [1, 2, 6, 8, 9]))
  (.reg [⟨some 43, none, .mv (.tmp 9)⟩,
    ⟨some 44, none, .bin .add (.tmp 43) (.val (.int .i64 1))⟩,
    ⟨some 9, none, .mv (.tmp 44)⟩] [] [1, 2, 6, 8, 9]))))))
  (.seq
  (.seq
  (.reg [⟨some 10, none, .mv (.val (.int .i64 0))⟩] [] [2, 6, 8, 10])
  (.blk 4 (.loop (.seq
  (.seq
  (.reg [⟨some 66, none, .mv (.tmp 10)⟩,
    ⟨some 67, none, .mv (.tmp 6)⟩,
    ⟨some 68, none, .len (.tmp 67)⟩,
    ⟨some 69, none, .bin .lss (.tmp 66) (.tmp 68)⟩] [] [2, 6, 8, 10, 69])
  (.cond (.tmp 69)
  (.skip)
  (.ext 4)))
  (.seq
  (.blk 5 (.seq
  (.seq
  (.reg [⟨some 72, none, .mv (.tmp 6)⟩,
    ⟨some 73, none, .mv (.tmp 10)⟩,
    ⟨some 74, none, .iaS 1 (.tmp 72) (.tmp 73)⟩,
    ⟨some 75, none, .ld none (.tmp 74)⟩,
    ⟨some 76, none, .bin .geq (.tmp 75) (.val (.int .i64 0))⟩,
    ⟨some 77, none, .mv (.tmp 76)⟩,
    ⟨some 78, (some (77, false)), .ld (some 4) (.tmp 2)⟩,
    ⟨some 79, (some (77, false)), .mv (.tmp 10)⟩,
    ⟨some 80, (some (77, false)), .bin .quo (.tmp 79) (.val (.int .i64 6))⟩,
    ⟨some 81, (some (77, false)), .mv (.tmp 10)⟩,
    ⟨some 82, (some (77, false)), .bin .rem (.tmp 81) (.val (.int .i64 6))⟩,
    ⟨some 83, (some (77, false)), .call 25 .pure [(.tmp 78), (.tmp 80), (.tmp 82)]⟩,
    ⟨some 84, (some (77, false)), .un .not (.tmp 83)⟩,
    ⟨some 85, none, .pick (.tmp 77) (.val (.bool true)) (.tmp 84)⟩] [] [2, 6, 8, 10, 85])
  (.cond (.tmp 85)
  (.ext 5)
  (.skip)))
  (.seq
  (.reg [⟨some 86, none, .mv (.tmp 6)⟩,
    ⟨some 87, none, .mv (.tmp 10)⟩,
    ⟨some 88, none, .mv (.tmp 10)⟩,
    ⟨some 89, none, .bin .quo (.tmp 88) (.val (.int .i64 6))⟩,
    ⟨some 90, none, .bin .mul (.tmp 89) (.val (.int .i64 8))⟩,
    ⟨some 91, none, .mv (.tmp 10)⟩,
    ⟨some 92, none, .bin .rem (.tmp 91) (.val (.int .i64 6))⟩,
    ⟨some 93, none, .bin .add (.tmp 90) (.tmp 92)⟩,
    ⟨some 94, none, .iaS 1 (.tmp 86) (.tmp 87)⟩,
    ⟨none, none, .st 1 (.tmp 94) (.tmp 93)⟩] [] [2, 6, 8, 10])
  (.seq
  (.reg [⟨some 95, none, .mv (.tmp 10)⟩,
    ⟨some 96, none, .bslm 3 1 1 [(.int .i64 0)] [(0, 1, (.tmp 95))]⟩,
    ⟨some 11, none, .mv (.tmp 96)⟩] [] [2, 6, 8, 10, 11])
  (.blk 6 (.loop (.seq
  (.seq
  (.reg [⟨some 97, none, .mv (.tmp 11)⟩,
    ⟨some 98, none, .len (.tmp 97)⟩,
    ⟨some 99, none, .bin .gtr (.tmp 98) (.val (.int .i64 0))⟩] [] [2, 6, 8, 10, 11, 99])
  (.cond (.tmp 99)
  (.skip)
  (.ext 6)))
  (.blk 7 (.seq
  (.reg [⟨some 100, none, .mv (.tmp 11)⟩,
    ⟨some 101, none, .mv (.tmp 11)⟩,
    ⟨some 102, none, .len (.tmp 101)⟩,
    ⟨some 103, none, .bin .sub (.tmp 102) (.val (.int .i64 1))⟩,
    ⟨some 104, none, .iaS 1 (.tmp 100) (.tmp 103)⟩,
    ⟨some 105, none, .ld none (.tmp 104)⟩,
    ⟨some 12, none, .mv (.tmp 105)⟩] [] [2, 6, 8, 10, 11, 12])
  (.seq
  (.reg [⟨some 106, none, .mv (.tmp 11)⟩,
    ⟨some 107, none, .mv (.tmp 11)⟩,
    ⟨some 108, none, .len (.tmp 107)⟩,
    ⟨some 109, none, .bin .sub (.tmp 108) (.val (.int .i64 1))⟩,
    ⟨some 110, none, .slc 1 (.tmp 106) none (some (.tmp 109)) none⟩,
    ⟨some 11, none, .mv (.tmp 110)⟩] [] [2, 6, 8, 10, 11, 12])
  (.seq
  (.reg [⟨some 111, none, .mv (.tmp 12)⟩,
    ⟨some 112, none, .bin .quo (.tmp 111) (.val (.int .i64 6))⟩,
    ⟨some 113, none, .mv (.tmp 12)⟩,
    ⟨some 114, none, .bin .rem (.tmp 113) (.val (.int .i64 6))⟩,
    ⟨some 13, none, .mv (.tmp 112)⟩,
    ⟨some 14, none, .mv (.tmp 114)⟩] [] [2, 6, 8, 10, 11, 12, 13, 14])
  (.seq
  (.reg [⟨some 15, none, .nacc 3 1⟩] [] [2, 6, 8, 10, 11, 12, 13, 14, 15])
  (.seq
  (.seq
  (.reg [⟨some 16, none, .mv (.val (.int .i64 0))⟩] [] [2, 6, 8, 10, 11, 12, 13, 14, 15, 16])
  (.blk 8 (.loop (.seq
  (.seq
  (.reg [⟨some 115, none, .mv (.tmp 16)⟩,
    ⟨some 116, none, .bin .lss (.tmp 115) (.val (.int .i64 6))⟩] [] [2, 6, 8, 10, 11, 12, 13, 14, 15, 16, 116])
  (.cond (.tmp 116)
  (.skip)
  (.ext 8)))
  (.seq
  (.blk 9 (.seq
  (.reg [⟨some 119, none, .mv (.tmp 14)⟩,
    ⟨some 120, none, .mv (.tmp 16)⟩,
    ⟨some 121, none, .call 86 .pure [(.tmp 119), (.tmp 120)]⟩,
    ⟨some 122, none, .mv (.tmp 121)⟩,
    ⟨some 123, (some (122, true)), .ld (some 4) (.tmp 2)⟩,
    ⟨some 124, (some (122, true)), .mv (.tmp 13)⟩,
    ⟨some 125, (some (122, true)), .mv (.tmp 16)⟩,
    ⟨some 126, (some (122, true)), .call 25 .pure [(.tmp 123), (.tmp 124), (.tmp 125)]⟩,
    ⟨some 127, none, .pick (.tmp 122) (.tmp 126) (.val (.bool false))⟩] [] [2, 6, 8, 10, 11, 12, 13, 14, 15, 16, 127])
  (.cond (.tmp 127)
  (.reg [⟨some 128, none, .mv (.tmp 15)⟩,
    ⟨some 129, none, .mv (.tmp 13)⟩,
    ⟨some 130, none, .bin .mul (.tmp 129) (.val (.int .i64 6))⟩,
    ⟨some 131, none, .mv (.tmp 16)⟩,
    ⟨some 132, none, .bin .add (.tmp 130) (.tmp 131)⟩,
    ⟨some 133, none, .bsl 1 1 [(.int .i64 0)] [(0, 1, (.tmp 132))]⟩,
    ⟨some 134, none, .app 3 1 8 (.tmp 128) (.tmp 133)⟩,
    ⟨some 15, none, .mv (.tmp 134)⟩] [] [2, 6, 8, 10, 11, 12, 13, 14, 15, 16])
  (.skip))))
  (.reg [⟨some 117, none, .mv (.tmp 16)⟩,
    ⟨some 118, none, .bin .add (.tmp 117) (.val (.int .i64 1))⟩,
    ⟨some 16, none, .mv (.tmp 118)⟩] [] [2, 6, 8, 10, 11, 12, 13, 14, 15, 16]))))))
  (.seq
  (.seq
  (.reg [⟨some 17, none, .mv (.val (.int .i64 0))⟩] [] [2, 6, 8, 10, 11, 12, 13, 14, 15, 17])
  (.blk 10 (.loop (.seq
  (.seq
  (.reg [⟨some 135, none, .mv (.tmp 17)⟩,
    ⟨some 136, none, .bin .lss (.tmp 135) (.val (.int .i64 4))⟩] [] [2, 6, 8, 10, 11, 12, 13, 14, 15, 17, 136])
  (.cond (.tmp 136)
  (.skip)
  (.ext 10)))
  (.seq
  (.blk 11 (.seq
  (.reg [⟨some 139, none, .faddr 0 (.tmp 2)⟩,
    ⟨some 140, none, .ld none (.tmp 139)⟩,
    ⟨some 141, none, .faddr 1 (.tmp 2)⟩,
    ⟨some 142, none, .ld none (.tmp 141)⟩,
    ⟨some 143, none, .mv (.tmp 13)⟩,
    ⟨some 144, none, .mv (.tmp 17)⟩,
    ⟨some 145, none, .call 87 .pure [(.tmp 140), (.tmp 142), (.tmp 143), (.tmp 144)]⟩,
    ⟨some 18, none, .mv (.tmp 145)⟩] [] [2, 6, 8, 10, 11, 12, 13, 14, 15, 17, 18])
  (.seq
  (.seq
  (.reg [⟨some 146, none, .mv (.tmp 14)⟩,
    ⟨some 147, none, .mv (.tmp 17)⟩,
    ⟨some 148, none, .call 51 .pure [(.tmp 146), (.tmp 147)]⟩,
    ⟨some 149, none, .un .not (.tmp 148)⟩,
    ⟨some 150, none, .mv (.tmp 149)⟩,
    ⟨some 151, (some (150, false)), .mv (.tmp 8)⟩,
    ⟨some 152, (some (150, false)), .mv (.tmp 12)⟩,
    ⟨some 153, (some (150, false)), .bin .mul (.tmp 152) (.val (.int .i64 4))⟩,
    ⟨some 154, (some (150, false)), .mv (.tmp 17)⟩,
    ⟨some 155, (some (150, false)), .bin .add (.tmp 153) (.tmp 154)⟩,
    ⟨some 156, (some (150, false)), .iaS 1 (.tmp 151) (.tmp 155)⟩,
    ⟨some 157, (some (150, false)), .ld none (.tmp 156)⟩,
    ⟨some 158, none, .pick (.tmp 150) (.val (.bool true)) (.tmp 157)⟩,
    ⟨some 159, none, .mv (.tmp 158)⟩,
    ⟨some 160, (some (159, false)), .mv (.tmp 18)⟩,
    ⟨some 161, (some (159, false)), .bin .lss (.tmp 160) (.val (.int .i64 0))⟩,
    ⟨some 162, none, .pick (.tmp 159) (.val (.bool true)) (.tmp 161)⟩] [] [2, 6, 8, 10, 11, 12, 13, 14, 15, 17, 18, 162])
  (.cond (.tmp 162)
  (.ext 11)
  (.skip)))
  (.seq
  (.reg [⟨some 19, none, .mv (.val (.int .i64 0))⟩] [] [2, 6, 8, 10, 11, 12, 13, 14, 15, 17, 18, 19])
  (.blk 12 (.loop (.seq
  (.seq
  (.reg [⟨some 163, none, .mv (.tmp 19)⟩,
    ⟨some 164, none, .bin .lss (.tmp 163) (.val (.int .i64 6))⟩] [] [2, 6, 8, 10, 11, 12, 13, 14, 15, 17, 18, 19, 164])
  (.cond (.tmp 164)
  (.skip)
  (.ext 12)))
  (.seq
  (.blk 13 (.seq
  (.reg [⟨some 167, none, .ld (some 4) (.tmp 2)⟩,
    ⟨some 168, none, .mv (.tmp 18)⟩,
    ⟨some 169, none, .mv (.tmp 19)⟩,
    ⟨some 170, none, .call 25 .pure [(.tmp 167), (.tmp 168), (.tmp 169)]⟩,
    ⟨some 171, none, .mv (.tmp 170)⟩,
    ⟨some 172, (some (171, true)), .mv (.tmp 19)⟩,
    ⟨some 173, (some (171, true)), .mv (.tmp 17)⟩,
    ⟨some 174, (some (171, true)), .bin .add (.tmp 173) (.val (.int .i64 2))⟩,
    ⟨some 175, (some (171, true)), .bin .rem (.tmp 174) (.val (.int .i64 4))⟩,
    ⟨some 176, (some (171, true)), .call 51 .pure [(.tmp 172), (.tmp 175)]⟩,
    ⟨some 177, none, .pick (.tmp 171) (.tmp 176) (.val (.bool false))⟩,
    ⟨some 178, none, .mv (.tmp 177)⟩,
    ⟨some 179, (some (178, true)), .mv (.tmp 8)⟩,
    ⟨some 180, (some (178, true)), .mv (.tmp 18)⟩,
    ⟨some 181, (some (178, true)), .bin .mul (.tmp 180) (.val (.int .i64 6))⟩,
    ⟨some 182, (some (178, true)), .mv (.tmp 19)⟩,
    ⟨some 183, (some (178, true)), .bin .add (.tmp 181) (.tmp 182)⟩,
    ⟨some 184, (some (178, true)), .bin .mul (.tmp 183) (.val (.int .i64 4))⟩,
    ⟨some 185, (some (178, true)), .mv (.tmp 17)⟩,
    ⟨some 186, (some (178, true)), .bin .add (.tmp 185) (.val (.int .i64 2))⟩,
    ⟨some 187, (some (178, true)), .bin .rem (.tmp 186) (.val (.int .i64 4))⟩,
    ⟨some 188, (some (178, true)), .bin .add (.tmp 184) (.tmp 187)⟩,
    ⟨some 189, (some (178, true)), .iaS 1 (.tmp 179) (.tmp 188)⟩,
    ⟨some 190, (some (178, true)), .ld none (.tmp 189)⟩,
    ⟨some 191, (some (178, true)), .un .not (.tmp 190)⟩,
    ⟨some 192, none, .pick (.tmp 178) (.tmp 191) (.val (.bool false))⟩] [] [2, 6, 8, 10, 11, 12, 13, 14, 15, 17, 18, 19, 192])
  (.cond (.tmp 192)
  (.reg [⟨some 193, none, .mv (.tmp 15)⟩,
    ⟨some 194, none, .mv (.tmp 18)⟩,
    ⟨some 195, none, .bin .mul (.tmp 194) (.val (.int .i64 6))⟩,
    ⟨some 196, none, .mv (.tmp 19)⟩,
    ⟨some 197, none, .bin .add (.tmp 195) (.tmp 196)⟩,
    ⟨some 198, none, .bsl 1 1 [(.int .i64 0)] [(0, 1, (.tmp 197))]⟩,
    ⟨some 199, none, .app 3 1 8 (.tmp 193) (.tmp 198)⟩,
    ⟨some 15, none, .mv (.tmp 199)⟩] [] [2, 6, 8, 10, 11, 12, 13, 14, 15, 17, 18, 19])
  (.skip))))
  (.reg [⟨some 165, none, .mv (.tmp 19)⟩,
    ⟨some 166, none, .bin .add (.tmp 165) (.val (.int .i64 1))⟩,
    ⟨some 19, none, .mv (.tmp 166)⟩] [] [2, 6, 8, 10, 11, 12, 13, 14, 15, 17, 18, 19])))))))))
  (.reg [⟨some 137, none, .mv (.tmp 17)⟩,
    ⟨some 138, none, .bin .add (.tmp 137) (.val (.int .i64 1))⟩,
    ⟨some 17, none, .mv (.tmp 138)⟩] [] [2, 6, 8, 10, 11, 12, 13, 14, 15, 17]))))))
  (.seq
  (.reg [⟨some 20, none, .mv (.val (.int .i64 0))⟩] [] [2, 6, 8, 10, 11, 15, 20])
  (.blk 14 (.loop (.seq
  (.seq
  (.reg [⟨some 200, none, .mv (.tmp 20)⟩,
    ⟨some 201, none, .mv (.tmp 15)⟩,
    ⟨some 202, none, .len (.tmp 201)⟩,
    ⟨some 203, none, .bin .lss (.tmp 200) (.tmp 202)⟩] [] [2, 6, 8, 10, 11, 15, 20, 203])
  (.cond (.tmp 203)
  (.skip)
  (.ext 14)))
  (.seq
  (.blk 15 (.seq
  (.reg [⟨some 206, none, .mv (.tmp 6)⟩,
    ⟨some 207, none, .mv (.tmp 15)⟩,
    ⟨some 208, none, .mv (.tmp 20)⟩,
    ⟨some 209, none, .iaS 1 (.tmp 207) (.tmp 208)⟩,
    ⟨some 210, none, .ld none (.tmp 209)⟩,
    ⟨some 211, none, .iaS 1 (.tmp 206) (.tmp 210)⟩,
    ⟨some 212, none, .ld none (.tmp 211)⟩,
    ⟨some 213, none, .bin .lss (.tmp 212) (.val (.int .i64 0))⟩] [] [2, 6, 8, 10, 11, 15, 20, 213])
  (.cond (.tmp 213)
  (.seq
  (.reg [⟨some 214, none, .mv (.tmp 6)⟩,
    ⟨some 215, none, .mv (.tmp 15)⟩,
    ⟨some 216, none, .mv (.tmp 20)⟩,
    ⟨some 217, none, .iaS 1 (.tmp 215) (.tmp 216)⟩,
    ⟨some 218, none, .ld none (.tmp 217)⟩,
    ⟨some 219, none, .mv (.tmp 6)⟩,
    ⟨some 220, none, .mv (.tmp 10)⟩,
    ⟨some 221, none, .iaS 1 (.tmp 219) (.tmp 220)⟩,
    ⟨some 222, none, .ld none (.tmp 221)⟩,
    ⟨some 223, none, .iaS 1 (.tmp 214) (.tmp 218)⟩,
    ⟨none, none, .st 1 (.tmp 223) (.tmp 222)⟩] [] [2, 6, 8, 10, 11, 15, 20])
  (.reg [⟨some 224, none, .mv (.tmp 11)⟩,
    ⟨some 225, none, .mv (.tmp 15)⟩,
    ⟨some 226, none, .mv (.tmp 20)⟩,
    ⟨some 227, none, .iaS 1 (.tmp 225) (.tmp 226)⟩,
    ⟨some 228, none, .ld none (.tmp 227)⟩,
    ⟨some 229, none, .bsl 1 1 [(.int .i64 0)] [(0, 1, (.tmp 228))]⟩,
    ⟨some 230, none, .app 3 1 8 (.tmp 224) (.tmp 229)⟩,
    ⟨some 11, none, .mv (.tmp 230)⟩] [] [2, 6, 8, 10, 11, 15, 20]))
  (.skip))))
  (.reg [⟨some 204, none, .mv (.tmp 20)⟩,
    ⟨some 205, none, .bin .add (.tmp 204) (.val (.int .i64 1))⟩,
    ⟨some 20, none, .mv (.tmp 205)⟩] [] [2, 6, 8, 10, 11, 15, 20]))))))))))))))))))))
  (.reg [⟨some 70, none, .mv (.tmp 10)⟩,
    ⟨some 71, none, .bin .add (.tmp 70) (.val (.int .i64 1))⟩,
    ⟨some 10, none, .mv (.tmp 71)⟩] [] [2, 6, 8, 10]))))))
  (.seq
  (.reg [⟨some 231, none, .mv (.tmp 6)⟩,
    ⟨some 4, none, .mv (.tmp 231)⟩] [] [4])
  (.ret))))))))⟩
theorem pf56_ok : fnOk Try.prog 56 pf56 = true := by kernel_rfl

end Go.Proofs.Ytfocelelbcepnaa
