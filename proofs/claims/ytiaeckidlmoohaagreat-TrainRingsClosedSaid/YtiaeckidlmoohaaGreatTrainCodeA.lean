/- PCode of functions, written by wip/tools/gen.py out of the loaded functions' print. -/
import Derived.Test.YtiaeckidlmoohaaGreatPmTwentyFive
import Derived.Test.YtiaeckidlmoohaaGreatPmTwentySeven
import Derived.Test.YtiaeckidlmoohaaGreatProg
import Derived.KernelRfl
set_option maxRecDepth 100000
namespace Go.Proofs.YtiaeckidlmoohaaGreat
open Go.Proofs.YtiaeckidlmoohaaGreat.PM

/-- hinterland/hinterlandlaw16.TrainRings -/
def pf7 : PFn := ⟨32, 1, [.tmp 2], .seq
(.reg [⟨some 2, none, .mv (.val (.bool false))⟩] [] [0])
(.seq
(.seq
(.reg [⟨some 7, none, .mv (.tmp 0)⟩,
⟨some 8, none, .len (.tmp 7)⟩,
⟨some 9, none, .bin .gtr (.tmp 8) (.val (.int .i64 1100))⟩] [] [0, 9])
(.cond (.tmp 9)
(.seq
(.reg [⟨some 10, none, .call 20 .pure []⟩,
⟨some 2, none, .mv (.tmp 10)⟩] [] [2])
(.ret))
(.skip)))
(.seq
(.reg [⟨some 12, none, .mv (.tmp 0)⟩,
⟨some 13, none, .call 31 .pure [(.tmp 12)]⟩,
⟨some 11, none, .mv (.tmp 13)⟩,
⟨some 14, none, .ext 0 (.tmp 11)⟩,
⟨some 15, none, .ext 1 (.tmp 11)⟩,
⟨some 3, none, .mv (.tmp 14)⟩,
⟨some 4, none, .mv (.tmp 15)⟩] [] [0, 3, 4])
(.seq
(.reg [⟨some 17, none, .mv (.tmp 0)⟩,
⟨some 18, none, .call 32 .pure [(.tmp 17)]⟩,
⟨some 16, none, .mv (.tmp 18)⟩,
⟨some 19, none, .ext 0 (.tmp 16)⟩,
⟨some 20, none, .ext 1 (.tmp 16)⟩,
⟨some 5, none, .mv (.tmp 19)⟩,
⟨some 6, none, .mv (.tmp 20)⟩] [] [3, 4, 5, 6])
(.seq
(.reg [⟨some 21, none, .mv (.tmp 4)⟩,
⟨some 22, none, .mv (.tmp 6)⟩,
⟨some 23, none, .bin .eql (.tmp 21) (.tmp 22)⟩,
⟨some 24, none, .mv (.tmp 23)⟩,
⟨some 25, (some (24, true)), .mv (.tmp 3)⟩,
⟨some 26, (some (24, true)), .mv (.tmp 5)⟩,
⟨some 27, (some (24, true)), .call 30 .pure [(.tmp 25), (.tmp 26)]⟩,
⟨some 28, none, .pick (.tmp 24) (.tmp 27) (.val (.bool false))⟩,
⟨some 29, none, .mv (.tmp 28)⟩,
⟨some 30, (some (29, true)), .call 20 .pure []⟩,
⟨some 31, none, .pick (.tmp 29) (.tmp 30) (.val (.bool false))⟩,
⟨some 2, none, .mv (.tmp 31)⟩] [] [2])
(.ret)))))⟩
theorem pf7_ok : fnOk Tryz.prog 7 pf7 = true := by kernel_rfl

/-- hinterland/hinterlandlaw16.TrainRingsClosed -/
def pf8 : PFn := ⟨82, 1, [.tmp 2], .seq
(.reg [⟨some 2, none, .mv (.val (.bool false))⟩] [] [0])
(.seq
(.seq
(.reg [⟨some 8, none, .mv (.tmp 0)⟩,
⟨some 9, none, .len (.tmp 8)⟩,
⟨some 10, none, .bin .gtr (.tmp 9) (.val (.int .i64 1100))⟩] [] [0, 10])
(.cond (.tmp 10)
(.seq
(.reg [⟨some 11, none, .call 20 .pure []⟩,
⟨some 2, none, .mv (.tmp 11)⟩] [] [2])
(.ret))
(.skip)))
(.seq
(.reg [⟨some 13, none, .mv (.tmp 0)⟩,
⟨some 14, none, .call 31 .pure [(.tmp 13)]⟩,
⟨some 12, none, .mv (.tmp 14)⟩,
⟨some 15, none, .ext 0 (.tmp 12)⟩,
⟨some 16, none, .ext 1 (.tmp 12)⟩,
⟨some 3, none, .mv (.tmp 15)⟩,
⟨some 4, none, .mv (.tmp 16)⟩] [] [0, 3, 4])
(.seq
(.seq
(.reg [⟨some 17, none, .mv (.tmp 4)⟩,
⟨some 18, none, .bin .neq (.tmp 17) (.val (.int .i64 0))⟩] [] [0, 3, 18])
(.cond (.tmp 18)
(.seq
(.reg [⟨some 19, none, .mv (.tmp 3)⟩,
⟨some 20, none, .len (.tmp 19)⟩,
⟨some 21, none, .bin .eql (.tmp 20) (.val (.int .i64 0))⟩,
⟨some 22, none, .mv (.tmp 21)⟩,
⟨some 23, (some (22, true)), .call 20 .pure []⟩,
⟨some 24, none, .pick (.tmp 22) (.tmp 23) (.val (.bool false))⟩,
⟨some 2, none, .mv (.tmp 24)⟩] [] [2])
(.ret))
(.skip)))
(.seq
(.reg [⟨some 25, none, .mv (.tmp 0)⟩,
⟨some 26, none, .len (.tmp 25)⟩,
⟨some 27, none, .mks 4 1 1 [(.bool false)] (.tmp 26) (.tmp 26)⟩,
⟨some 5, none, .mv (.tmp 27)⟩] [] [0, 3, 5])
(.seq
(.seq
(.reg [⟨some 28, none, .mv (.tmp 3)⟩,
⟨some 29, none, .len (.tmp 28)⟩,
⟨some 30, none, .mv (.val (.int .i64 0))⟩] [] [0, 3, 5, 28, 29, 30])
(.blk 0 (.loop (.seq
(.reg [⟨some 31, none, .bin .lss (.tmp 30) (.tmp 29)⟩] [] [0, 3, 5, 28, 29, 30, 31])
(.seq
(.cond (.tmp 31)
(.skip)
(.ext 0))
(.seq
(.blk 1 (.seq
(.reg [⟨some 32, none, .mv (.tmp 30)⟩,
⟨some 33, none, .iaS 1 (.tmp 28) (.tmp 30)⟩,
⟨some 34, none, .ld none (.tmp 33)⟩,
⟨some 6, none, .mv (.tmp 32)⟩,
⟨some 7, none, .mv (.tmp 34)⟩] [] [0, 3, 5, 6, 7, 28, 29, 30])
(.seq
(.seq
(.reg [⟨some 35, none, .mv (.tmp 7)⟩,
⟨some 36, none, .bin .lss (.tmp 35) (.val (.int .i64 0))⟩,
⟨some 37, none, .mv (.tmp 36)⟩,
⟨some 38, (some (37, false)), .mv (.tmp 7)⟩,
⟨some 39, (some (37, false)), .mv (.tmp 0)⟩,
⟨some 40, (some (37, false)), .len (.tmp 39)⟩,
⟨some 41, (some (37, false)), .bin .geq (.tmp 38) (.tmp 40)⟩,
⟨some 42, none, .pick (.tmp 37) (.val (.bool true)) (.tmp 41)⟩,
⟨some 43, none, .mv (.tmp 42)⟩,
⟨some 44, (some (43, false)), .mv (.tmp 6)⟩,
⟨some 45, (some (43, false)), .bin .gtr (.tmp 44) (.val (.int .i64 0))⟩,
⟨some 46, (some (43, false)), .mv (.tmp 45)⟩,
⟨some 47, (some (46, true)), .mv (.tmp 3)⟩,
⟨some 48, (some (46, true)), .mv (.tmp 6)⟩,
⟨some 49, (some (46, true)), .bin .sub (.tmp 48) (.val (.int .i64 1))⟩,
⟨some 50, (some (46, true)), .iaS 1 (.tmp 47) (.tmp 49)⟩,
⟨some 51, (some (46, true)), .ld none (.tmp 50)⟩,
⟨some 52, (some (46, true)), .mv (.tmp 7)⟩,
⟨some 53, (some (46, true)), .bin .geq (.tmp 51) (.tmp 52)⟩,
⟨some 54, (some (43, false)), .pick (.tmp 46) (.tmp 53) (.val (.bool false))⟩,
⟨some 55, none, .pick (.tmp 43) (.val (.bool true)) (.tmp 54)⟩,
⟨some 56, none, .mv (.tmp 55)⟩,
⟨some 57, (some (56, false)), .mv (.tmp 3)⟩,
⟨some 58, (some (56, false)), .mv (.tmp 0)⟩,
⟨some 59, (some (56, false)), .mv (.tmp 7)⟩,
⟨some 60, (some (56, false)), .iaS 1 (.tmp 58) (.tmp 59)⟩,
⟨some 61, (some (56, false)), .ld none (.tmp 60)⟩,
⟨some 62, (some (56, false)), .call 33 .pure [(.tmp 57), (.tmp 61)]⟩,
⟨some 63, (some (56, false)), .un .not (.tmp 62)⟩,
⟨some 64, none, .pick (.tmp 56) (.val (.bool true)) (.tmp 63)⟩,
⟨some 65, none, .mv (.tmp 64)⟩,
⟨some 66, (some (65, false)), .mv (.tmp 5)⟩,
⟨some 67, (some (65, false)), .mv (.tmp 0)⟩,
⟨some 68, (some (65, false)), .mv (.tmp 7)⟩,
⟨some 69, (some (65, false)), .iaS 1 (.tmp 67) (.tmp 68)⟩,
⟨some 70, (some (65, false)), .ld none (.tmp 69)⟩,
⟨some 71, (some (65, false)), .iaS 1 (.tmp 66) (.tmp 70)⟩,
⟨some 72, (some (65, false)), .ld none (.tmp 71)⟩,
⟨some 73, none, .pick (.tmp 65) (.val (.bool true)) (.tmp 72)⟩] [] [0, 3, 5, 7, 28, 29, 30, 73])
(.cond (.tmp 73)
(.seq
(.reg [⟨some 2, none, .mv (.val (.bool false))⟩] [] [2])
(.ret))
(.skip)))
(.reg [⟨some 74, none, .mv (.tmp 5)⟩,
⟨some 75, none, .mv (.tmp 0)⟩,
⟨some 76, none, .mv (.tmp 7)⟩,
⟨some 77, none, .iaS 1 (.tmp 75) (.tmp 76)⟩,
⟨some 78, none, .ld none (.tmp 77)⟩,
⟨some 79, none, .iaS 1 (.tmp 74) (.tmp 78)⟩,
⟨none, none, .st 1 (.tmp 79) (.val (.bool true))⟩] [] [0, 3, 5, 28, 29, 30]))))
(.reg [⟨some 80, none, .bin .add (.tmp 30) (.val (.int .i64 1))⟩,
⟨some 30, none, .mv (.tmp 80)⟩] [] [0, 3, 5, 28, 29, 30])))))))
(.seq
(.reg [⟨some 81, none, .call 20 .pure []⟩,
⟨some 2, none, .mv (.tmp 81)⟩] [] [2])
(.ret)))))))⟩
theorem pf8_ok : fnOk Tryz.prog 8 pf8 = true := by kernel_rfl

/-- hinterland/hinterlandlaw16.known -/
def pf20 : PFn := ⟨58, 0, [.tmp 0], .seq
(.reg [⟨some 0, none, .mv (.val (.bool false))⟩] [] [])
(.seq
(.reg [⟨some 8, none, .call 53 .pure []⟩,
⟨some 9, none, .bsl 2 1 [(.list .nil 1 [])] [(0, 1, (.val (.list .nil 1 []))), (1, 1, (.val (.list .nil 1 [])))]⟩,
⟨some 10, none, .call 28 .pure [(.tmp 8), (.tmp 9)]⟩,
⟨some 7, none, .mv (.tmp 10)⟩,
⟨some 11, none, .ext 0 (.tmp 7)⟩,
⟨some 12, none, .ext 1 (.tmp 7)⟩,
⟨some 1, none, .mv (.tmp 11)⟩,
⟨some 2, none, .mv (.tmp 12)⟩] [] [1, 2])
(.seq
(.reg [⟨some 14, none, .bsl 2 1 [(.int .i64 0)] [(0, 1, (.val (.int .i64 1))), (1, 1, (.val (.int .i64 0)))]⟩,
⟨some 15, none, .call 31 .pure [(.tmp 14)]⟩,
⟨some 13, none, .mv (.tmp 15)⟩,
⟨some 16, none, .ext 0 (.tmp 13)⟩,
⟨some 17, none, .ext 1 (.tmp 13)⟩,
⟨some 3, none, .mv (.tmp 16)⟩,
⟨some 4, none, .mv (.tmp 17)⟩] [] [1, 2, 3, 4])
(.seq
(.reg [⟨some 19, none, .call 53 .pure []⟩,
⟨some 20, none, .call 23 .pure [(.tmp 19)]⟩,
⟨some 18, none, .mv (.tmp 20)⟩,
⟨some 21, none, .ext 0 (.tmp 18)⟩,
⟨some 22, none, .ext 1 (.tmp 18)⟩,
⟨some 5, none, .mv (.tmp 21)⟩,
⟨some 6, none, .mv (.tmp 22)⟩] [] [1, 2, 3, 4, 5, 6])
(.seq
(.reg [⟨some 23, none, .mv (.tmp 2)⟩,
⟨some 24, none, .bin .eql (.tmp 23) (.val (.int .i64 0))⟩,
⟨some 25, none, .mv (.tmp 24)⟩,
⟨some 26, (some (25, true)), .mv (.tmp 1)⟩,
⟨some 27, (some (25, true)), .len (.tmp 26)⟩,
⟨some 28, (some (25, true)), .bin .eql (.tmp 27) (.val (.int .i64 2))⟩,
⟨some 29, none, .pick (.tmp 25) (.tmp 28) (.val (.bool false))⟩,
⟨some 30, none, .mv (.tmp 29)⟩,
⟨some 31, (some (30, true)), .mv (.tmp 4)⟩,
⟨some 32, (some (30, true)), .bin .eql (.tmp 31) (.val (.int .i64 0))⟩,
⟨some 33, none, .pick (.tmp 30) (.tmp 32) (.val (.bool false))⟩,
⟨some 34, none, .mv (.tmp 33)⟩,
⟨some 35, (some (34, true)), .mv (.tmp 3)⟩,
⟨some 36, (some (34, true)), .len (.tmp 35)⟩,
⟨some 37, (some (34, true)), .bin .eql (.tmp 36) (.val (.int .i64 2))⟩,
⟨some 38, none, .pick (.tmp 34) (.tmp 37) (.val (.bool false))⟩,
⟨some 39, none, .mv (.tmp 38)⟩,
⟨some 40, (some (39, true)), .mv (.tmp 3)⟩,
⟨some 41, (some (39, true)), .iaS 1 (.tmp 40) (.val (.int .i64 0))⟩,
⟨some 42, (some (39, true)), .ld none (.tmp 41)⟩,
⟨some 43, (some (39, true)), .bin .eql (.tmp 42) (.val (.int .i64 0))⟩,
⟨some 44, none, .pick (.tmp 39) (.tmp 43) (.val (.bool false))⟩,
⟨some 45, none, .mv (.tmp 44)⟩,
⟨some 46, (some (45, true)), .mv (.tmp 3)⟩,
⟨some 47, (some (45, true)), .iaS 1 (.tmp 46) (.val (.int .i64 1))⟩,
⟨some 48, (some (45, true)), .ld none (.tmp 47)⟩,
⟨some 49, (some (45, true)), .bin .eql (.tmp 48) (.val (.int .i64 1))⟩,
⟨some 50, none, .pick (.tmp 45) (.tmp 49) (.val (.bool false))⟩,
⟨some 51, none, .mv (.tmp 50)⟩,
⟨some 52, (some (51, true)), .mv (.tmp 5)⟩,
⟨some 53, none, .pick (.tmp 51) (.tmp 52) (.val (.bool false))⟩,
⟨some 54, none, .mv (.tmp 53)⟩,
⟨some 55, (some (54, true)), .mv (.tmp 6)⟩,
⟨some 56, (some (54, true)), .bin .eql (.tmp 55) (.val (.int .i64 0))⟩,
⟨some 57, none, .pick (.tmp 54) (.tmp 56) (.val (.bool false))⟩,
⟨some 0, none, .mv (.tmp 57)⟩] [] [0])
(.ret)))))⟩
theorem pf20_ok : fnOk Tryz.prog 20 pf20 = true := by kernel_rfl

/-- hinterland/train.Validate -/
def pf21 : PFn := ⟨140, 1, [.tmp 2], .seq
(.reg [⟨some 1, none, .boxp 30 (.tmp 0)⟩,
⟨some 2, none, .mv (.val (.int .i64 0))⟩] [] [1])
(.seq
(.seq
(.reg [⟨some 17, none, .faddr 0 (.tmp 1)⟩,
⟨some 18, none, .ld (some 4) (.tmp 17)⟩,
⟨some 19, none, .faddr 4 (.tmp 1)⟩,
⟨some 20, none, .ld none (.tmp 19)⟩,
⟨some 21, none, .call 54 .pure [(.tmp 18), (.tmp 20)]⟩,
⟨some 3, none, .mv (.tmp 21)⟩] [] [1, 3])
(.seq
(.reg [⟨some 22, none, .mv (.tmp 3)⟩,
⟨some 23, none, .bin .neq (.tmp 22) (.val (.int .i64 0))⟩] [] [1, 3, 23])
(.cond (.tmp 23)
(.seq
(.reg [⟨some 24, none, .mv (.tmp 3)⟩,
⟨some 2, none, .mv (.tmp 24)⟩] [] [2])
(.ret))
(.skip))))
(.seq
(.seq
(.reg [⟨some 25, none, .faddr 5 (.tmp 1)⟩,
⟨some 26, none, .ld none (.tmp 25)⟩,
⟨some 27, none, .len (.tmp 26)⟩,
⟨some 28, none, .bin .gtr (.tmp 27) (.val (.int .i64 80))⟩,
⟨some 29, none, .mv (.tmp 28)⟩,
⟨some 30, (some (29, false)), .faddr 6 (.tmp 1)⟩,
⟨some 31, (some (29, false)), .ld none (.tmp 30)⟩,
⟨some 32, (some (29, false)), .len (.tmp 31)⟩,
⟨some 33, (some (29, false)), .bin .gtr (.tmp 32) (.val (.int .i64 60))⟩,
⟨some 34, none, .pick (.tmp 29) (.val (.bool true)) (.tmp 33)⟩] [] [1, 34])
(.cond (.tmp 34)
(.seq
(.reg [⟨some 2, none, .mv (.val (.int .i64 4))⟩] [] [2])
(.ret))
(.skip)))
(.seq
(.seq
(.reg [⟨some 35, none, .faddr 5 (.tmp 1)⟩,
⟨some 36, none, .ld none (.tmp 35)⟩,
⟨some 37, none, .len (.tmp 36)⟩,
⟨some 38, none, .mv (.val (.int .i64 0))⟩] [] [1, 36, 37, 38])
(.blk 0 (.loop (.trim (.seq
(.reg [⟨some 39, none, .bin .lss (.tmp 38) (.tmp 37)⟩] [] [1, 36, 37, 38, 39])
(.seq
(.cond (.tmp 39)
(.skip)
(.ext 0))
(.seq
(.blk 1 (.seq
(.reg [⟨some 40, none, .mv (.tmp 38)⟩,
⟨some 41, none, .iaS 6 (.tmp 36) (.tmp 38)⟩,
⟨some 42, none, .ld (some 6) (.tmp 41)⟩,
⟨some 5, none, .zer 78 (.agg [(.int .i64 0), (.int .i64 0), (.int .i64 0), (.int .i64 0), (.int .i64 0), (.int .i64 0)])⟩,
⟨some 4, none, .mv (.tmp 40)⟩,
⟨none, none, .st 6 (.tmp 5) (.tmp 42)⟩] [] [1, 4, 5, 36, 37, 38])
(.seq
(.reg [⟨some 43, none, .mv (.tmp 4)⟩,
⟨some 44, none, .bin .gtr (.tmp 43) (.val (.int .i64 0))⟩,
⟨some 45, none, .mv (.tmp 44)⟩,
⟨some 46, (some (45, true)), .faddr 5 (.tmp 1)⟩,
⟨some 47, (some (45, true)), .ld none (.tmp 46)⟩,
⟨some 48, (some (45, true)), .mv (.tmp 4)⟩,
⟨some 49, (some (45, true)), .bin .sub (.tmp 48) (.val (.int .i64 1))⟩,
⟨some 50, (some (45, true)), .iaS 6 (.tmp 47) (.tmp 49)⟩,
⟨some 51, (some (45, true)), .faddr 0 (.tmp 50)⟩,
⟨some 52, (some (45, true)), .ld (some 3) (.tmp 51)⟩,
⟨some 53, (some (45, true)), .faddr 0 (.tmp 5)⟩,
⟨some 54, (some (45, true)), .ld (some 3) (.tmp 53)⟩,
⟨some 55, (some (45, true)), .call 56 .pure [(.tmp 52), (.tmp 54)]⟩,
⟨some 56, (some (45, true)), .faddr 5 (.tmp 1)⟩,
⟨some 57, (some (45, true)), .ld none (.tmp 56)⟩,
⟨some 58, (some (45, true)), .mv (.tmp 4)⟩,
⟨some 59, (some (45, true)), .bin .sub (.tmp 58) (.val (.int .i64 1))⟩,
⟨some 60, (some (45, true)), .iaS 6 (.tmp 57) (.tmp 59)⟩,
⟨some 61, (some (45, true)), .faddr 3 (.tmp 60)⟩,
⟨some 62, (some (45, true)), .ld (some 3) (.tmp 61)⟩,
⟨some 63, (some (45, true)), .faddr 3 (.tmp 5)⟩,
⟨some 64, (some (45, true)), .ld (some 3) (.tmp 63)⟩,
⟨some 65, (some (45, true)), .call 56 .pure [(.tmp 62), (.tmp 64)]⟩,
⟨some 66, (some (45, true)), .bsl 2 1 [(.int .i64 0)] [(0, 1, (.tmp 55)), (1, 1, (.tmp 65))]⟩,
⟨some 67, (some (45, true)), .call 55 .pure [(.tmp 66)]⟩,
⟨some 68, (some (45, true)), .bin .geq (.tmp 67) (.val (.int .i64 0))⟩,
⟨some 69, none, .pick (.tmp 45) (.tmp 68) (.val (.bool false))⟩] [] [1, 36, 37, 38, 69])
(.cond (.tmp 69)
(.seq
(.reg [⟨some 2, none, .mv (.val (.int .i64 1))⟩] [] [2])
(.ret))
(.skip)))))
(.reg [⟨some 70, none, .bin .add (.tmp 38) (.val (.int .i64 1))⟩,
⟨some 38, none, .mv (.tmp 70)⟩] [] [1, 36, 37, 38]))))))))
(.seq
(.seq
(.reg [⟨some 71, none, .faddr 6 (.tmp 1)⟩,
⟨some 72, none, .ld none (.tmp 71)⟩,
⟨some 73, none, .len (.tmp 72)⟩,
⟨some 74, none, .mv (.val (.int .i64 0))⟩] [] [1, 72, 73, 74])
(.blk 2 (.loop (.trim (.seq
(.reg [⟨some 75, none, .bin .lss (.tmp 74) (.tmp 73)⟩] [] [1, 72, 73, 74, 75])
(.seq
(.cond (.tmp 75)
(.skip)
(.ext 2))
(.seq
(.blk 3 (.seq
(.reg [⟨some 76, none, .iaS 5 (.tmp 72) (.tmp 74)⟩,
⟨some 77, none, .ld (some 5) (.tmp 76)⟩,
⟨some 7, none, .zer 68 (.agg [(.int .i64 0), (.int .i64 0), (.int .i64 0), (.list .nil 3 []), (.list .nil 3 [])])⟩,
⟨none, none, .st 5 (.tmp 7) (.tmp 77)⟩] [] [1, 7, 72, 73, 74])
(.seq
(.reg [⟨some 78, none, .ld (some 5) (.tmp 7)⟩,
⟨some 79, none, .call 57 .pure [(.tmp 78)]⟩,
⟨some 80, none, .un .not (.tmp 79)⟩] [] [1, 72, 73, 74, 80])
(.cond (.tmp 80)
(.seq
(.reg [⟨some 2, none, .mv (.val (.int .i64 1))⟩] [] [2])
(.ret))
(.skip)))))
(.reg [⟨some 81, none, .bin .add (.tmp 74) (.val (.int .i64 1))⟩,
⟨some 74, none, .mv (.tmp 81)⟩] [] [1, 72, 73, 74]))))))))
(.seq
(.seq
(.reg [⟨some 82, none, .faddr 5 (.tmp 1)⟩,
⟨some 83, none, .ld none (.tmp 82)⟩,
⟨some 84, none, .len (.tmp 83)⟩,
⟨some 85, none, .mv (.val (.int .i64 0))⟩] [] [1, 83, 84, 85])
(.blk 4 (.loop (.trim (.seq
(.reg [⟨some 86, none, .bin .lss (.tmp 85) (.tmp 84)⟩] [] [1, 83, 84, 85, 86])
(.seq
(.cond (.tmp 86)
(.skip)
(.ext 4))
(.seq
(.blk 5 (.seq
(.reg [⟨some 87, none, .iaS 6 (.tmp 83) (.tmp 85)⟩,
⟨some 88, none, .ld (some 6) (.tmp 87)⟩,
⟨some 9, none, .zer 78 (.agg [(.int .i64 0), (.int .i64 0), (.int .i64 0), (.int .i64 0), (.int .i64 0), (.int .i64 0)])⟩,
⟨none, none, .st 6 (.tmp 9) (.tmp 88)⟩] [] [1, 9, 83, 84, 85])
(.seq
(.reg [⟨some 89, none, .faddr 0 (.tmp 1)⟩,
⟨some 90, none, .ld (some 4) (.tmp 89)⟩,
⟨some 91, none, .faddr 0 (.tmp 9)⟩,
⟨some 92, none, .ld (some 3) (.tmp 91)⟩,
⟨some 93, none, .call 58 .pure [(.tmp 90), (.tmp 92)]⟩,
⟨some 94, none, .un .not (.tmp 93)⟩,
⟨some 95, none, .mv (.tmp 94)⟩,
⟨some 96, (some (95, false)), .faddr 0 (.tmp 1)⟩,
⟨some 97, (some (95, false)), .ld (some 4) (.tmp 96)⟩,
⟨some 98, (some (95, false)), .faddr 3 (.tmp 9)⟩,
⟨some 99, (some (95, false)), .ld (some 3) (.tmp 98)⟩,
⟨some 100, (some (95, false)), .call 58 .pure [(.tmp 97), (.tmp 99)]⟩,
⟨some 101, (some (95, false)), .un .not (.tmp 100)⟩,
⟨some 102, none, .pick (.tmp 95) (.val (.bool true)) (.tmp 101)⟩] [] [1, 83, 84, 85, 102])
(.cond (.tmp 102)
(.seq
(.reg [⟨some 2, none, .mv (.val (.int .i64 2))⟩] [] [2])
(.ret))
(.skip)))))
(.reg [⟨some 103, none, .bin .add (.tmp 85) (.val (.int .i64 1))⟩,
⟨some 85, none, .mv (.tmp 103)⟩] [] [1, 83, 84, 85]))))))))
(.seq
(.seq
(.reg [⟨some 104, none, .faddr 6 (.tmp 1)⟩,
⟨some 105, none, .ld none (.tmp 104)⟩,
⟨some 106, none, .len (.tmp 105)⟩,
⟨some 107, none, .mv (.val (.int .i64 0))⟩] [] [1, 105, 106, 107])
(.blk 6 (.loop (.trim (.seq
(.reg [⟨some 108, none, .bin .lss (.tmp 107) (.tmp 106)⟩] [] [1, 105, 106, 107, 108])
(.seq
(.cond (.tmp 108)
(.skip)
(.ext 6))
(.seq
(.blk 7 (.seq
(.reg [⟨some 109, none, .iaS 5 (.tmp 105) (.tmp 107)⟩,
⟨some 110, none, .ld (some 5) (.tmp 109)⟩,
⟨some 11, none, .zer 68 (.agg [(.int .i64 0), (.int .i64 0), (.int .i64 0), (.list .nil 3 []), (.list .nil 3 [])])⟩,
⟨none, none, .st 5 (.tmp 11) (.tmp 110)⟩] [] [1, 11, 105, 106, 107])
(.seq
(.reg [⟨some 111, none, .ld (some 5) (.tmp 11)⟩,
⟨some 112, none, .call 59 .pure [(.tmp 111)]⟩,
⟨some 113, none, .len (.tmp 112)⟩,
⟨some 114, none, .mv (.val (.int .i64 0))⟩] [] [1, 105, 106, 107, 112, 113, 114])
(.blk 8 (.loop (.trim (.seq
(.reg [⟨some 115, none, .bin .lss (.tmp 114) (.tmp 113)⟩] [] [1, 105, 106, 107, 112, 113, 114, 115])
(.seq
(.cond (.tmp 115)
(.skip)
(.ext 8))
(.seq
(.blk 9 (.seq
(.reg [⟨some 116, none, .iaS 3 (.tmp 112) (.tmp 114)⟩,
⟨some 117, none, .ld (some 3) (.tmp 116)⟩,
⟨some 13, none, .zer 54 (.agg [(.int .i64 0), (.int .i64 0), (.int .i64 0)])⟩,
⟨none, none, .st 3 (.tmp 13) (.tmp 117)⟩] [] [1, 13, 105, 106, 107, 112, 113, 114])
(.seq
(.reg [⟨some 118, none, .faddr 0 (.tmp 1)⟩,
⟨some 119, none, .ld (some 4) (.tmp 118)⟩,
⟨some 120, none, .ld (some 3) (.tmp 13)⟩,
⟨some 121, none, .call 58 .pure [(.tmp 119), (.tmp 120)]⟩,
⟨some 122, none, .un .not (.tmp 121)⟩] [] [1, 105, 106, 107, 112, 113, 114, 122])
(.cond (.tmp 122)
(.seq
(.reg [⟨some 2, none, .mv (.val (.int .i64 2))⟩] [] [2])
(.ret))
(.skip)))))
(.reg [⟨some 123, none, .bin .add (.tmp 114) (.val (.int .i64 1))⟩,
⟨some 114, none, .mv (.tmp 123)⟩] [] [1, 105, 106, 107, 112, 113, 114]))))))))))
(.reg [⟨some 124, none, .bin .add (.tmp 107) (.val (.int .i64 1))⟩,
⟨some 107, none, .mv (.tmp 124)⟩] [] [1, 105, 106, 107]))))))))
(.seq
(.reg [⟨some 125, none, .ld (some 7) (.tmp 1)⟩,
⟨some 126, none, .call 60 .pure [(.tmp 125)]⟩,
⟨some 14, none, .zer 90 (.agg [(.int .i64 0), (.int .i64 0), (.list .nil 1 []), (.list .nil 1 []), (.list .nil 4 []), (.list .nil 6 []), (.list .nil 5 []), .nilmap, .nilmap])⟩,
⟨none, none, .st 9 (.tmp 14) (.tmp 126)⟩] [] [1, 14])
(.seq
(.seq
(.reg [⟨some 127, none, .faddr 6 (.tmp 1)⟩,
⟨some 128, none, .ld none (.tmp 127)⟩,
⟨some 129, none, .len (.tmp 128)⟩,
⟨some 130, none, .mv (.val (.int .i64 0))⟩] [] [14, 128, 129, 130])
(.blk 10 (.loop (.trim (.seq
(.reg [⟨some 131, none, .bin .lss (.tmp 130) (.tmp 129)⟩] [] [14, 128, 129, 130, 131])
(.seq
(.cond (.tmp 131)
(.skip)
(.ext 10))
(.seq
(.blk 11 (.seq
(.reg [⟨some 132, none, .iaS 5 (.tmp 128) (.tmp 130)⟩,
⟨some 133, none, .ld (some 5) (.tmp 132)⟩,
⟨some 16, none, .zer 68 (.agg [(.int .i64 0), (.int .i64 0), (.int .i64 0), (.list .nil 3 []), (.list .nil 3 [])])⟩,
⟨none, none, .st 5 (.tmp 16) (.tmp 133)⟩] [] [14, 16, 128, 129, 130])
(.seq
(.reg [⟨some 134, none, .ld (some 9) (.tmp 14)⟩,
⟨some 135, none, .ld (some 5) (.tmp 16)⟩,
⟨some 136, none, .call 59 .pure [(.tmp 135)]⟩,
⟨some 137, none, .call 61 .pure [(.tmp 134), (.tmp 136)]⟩,
⟨some 138, none, .un .not (.tmp 137)⟩] [] [14, 128, 129, 130, 138])
(.cond (.tmp 138)
(.seq
(.reg [⟨some 2, none, .mv (.val (.int .i64 8))⟩] [] [2])
(.ret))
(.skip)))))
(.reg [⟨some 139, none, .bin .add (.tmp 130) (.val (.int .i64 1))⟩,
⟨some 130, none, .mv (.tmp 139)⟩] [] [14, 128, 129, 130]))))))))
(.seq
(.reg [⟨some 2, none, .mv (.val (.int .i64 0))⟩] [] [2])
(.ret))))))))))⟩
theorem pf21_ok : fnOk Tryz.prog 21 pf21 = true := by kernel_rfl

/-- hinterland/train.Safe -/
def pf23 : PFn := ⟨32, 1, [.tmp 2, .tmp 3], .seq
(.reg [⟨some 1, none, .boxp 30 (.tmp 0)⟩,
⟨some 2, none, .mv (.val (.bool false))⟩,
⟨some 3, none, .mv (.val (.int .i64 0))⟩] [] [1])
(.seq
(.seq
(.reg [⟨some 9, none, .ld (some 7) (.tmp 1)⟩,
⟨some 10, none, .call 21 .pure [(.tmp 9)]⟩,
⟨some 4, none, .mv (.tmp 10)⟩] [] [1, 4])
(.seq
(.reg [⟨some 11, none, .mv (.tmp 4)⟩,
⟨some 12, none, .bin .neq (.tmp 11) (.val (.int .i64 0))⟩] [] [1, 4, 12])
(.cond (.tmp 12)
(.seq
(.reg [⟨some 13, none, .mv (.tmp 4)⟩,
⟨some 2, none, .mv (.val (.bool false))⟩,
⟨some 3, none, .mv (.tmp 13)⟩] [] [2, 3])
(.ret))
(.skip))))
(.seq
(.reg [⟨some 14, none, .ld (some 7) (.tmp 1)⟩,
⟨some 15, none, .call 60 .pure [(.tmp 14)]⟩,
⟨some 5, none, .zer 90 (.agg [(.int .i64 0), (.int .i64 0), (.list .nil 1 []), (.list .nil 1 []), (.list .nil 4 []), (.list .nil 6 []), (.list .nil 5 []), .nilmap, .nilmap])⟩,
⟨none, none, .st 9 (.tmp 5) (.tmp 15)⟩] [] [1, 5])
(.seq
(.seq
(.reg [⟨some 16, none, .faddr 6 (.tmp 1)⟩,
⟨some 17, none, .ld none (.tmp 16)⟩,
⟨some 18, none, .len (.tmp 17)⟩,
⟨some 19, none, .mv (.val (.int .i64 0))⟩] [] [5, 17, 18, 19])
(.blk 0 (.loop (.trim (.seq
(.reg [⟨some 20, none, .bin .lss (.tmp 19) (.tmp 18)⟩] [] [5, 17, 18, 19, 20])
(.seq
(.cond (.tmp 20)
(.skip)
(.ext 0))
(.seq
(.blk 1 (.seq
(.reg [⟨some 21, none, .mv (.tmp 19)⟩,
⟨some 22, none, .iaS 5 (.tmp 17) (.tmp 19)⟩,
⟨some 23, none, .ld (some 5) (.tmp 22)⟩,
⟨some 7, none, .zer 68 (.agg [(.int .i64 0), (.int .i64 0), (.int .i64 0), (.list .nil 3 []), (.list .nil 3 [])])⟩,
⟨some 6, none, .mv (.tmp 21)⟩,
⟨none, none, .st 5 (.tmp 7) (.tmp 23)⟩] [] [5, 6, 7, 17, 18, 19])
(.seq
(.reg [⟨some 24, none, .ld (some 9) (.tmp 5)⟩,
⟨some 25, none, .mv (.tmp 6)⟩,
⟨some 26, none, .call 69 .pure [(.tmp 24), (.tmp 25)]⟩,
⟨some 8, none, .zer 97 .nilmap⟩,
⟨none, none, .st 1 (.tmp 8) (.tmp 26)⟩] [] [5, 7, 8, 17, 18, 19])
(.seq
(.reg [⟨some 27, none, .ld (some 5) (.tmp 7)⟩,
⟨some 28, none, .call 59 .pure [(.tmp 27)]⟩,
⟨some 29, none, .mkf (.func 71) [] [(.tmp 8)]⟩,
⟨some 30, none, .call 70 .pure [(.tmp 28), (.tmp 29)]⟩] [] [5, 17, 18, 19, 30])
(.cond (.tmp 30)
(.seq
(.reg [⟨some 2, none, .mv (.val (.bool false))⟩,
⟨some 3, none, .mv (.val (.int .i64 0))⟩] [] [2, 3])
(.ret))
(.skip))))))
(.reg [⟨some 31, none, .bin .add (.tmp 19) (.val (.int .i64 1))⟩,
⟨some 19, none, .mv (.tmp 31)⟩] [] [5, 17, 18, 19]))))))))
(.seq
(.reg [⟨some 2, none, .mv (.val (.bool true))⟩,
⟨some 3, none, .mv (.val (.int .i64 0))⟩] [] [2, 3])
(.ret)))))⟩
theorem pf23_ok : fnOk Tryz.prog 23 pf23 = true := by kernel_rfl

/-- hinterland/train.Step -/
def pf25 : PFn := ⟨110, 3, [.cell 6 (some 7), .tmp 7, .tmp 8], .seq
(.reg [⟨some 3, none, .boxp 30 (.tmp 0)⟩,
⟨some 6, none, .zer 30 (.agg [(.int .i64 0), (.int .i64 0), (.list .nil 1 []), (.list .nil 1 []), (.list .nil 4 []), (.list .nil 6 []), (.list .nil 5 [])])⟩,
⟨some 7, none, .mv (.val (.int .i64 0))⟩,
⟨some 8, none, .mv (.val (.int .i64 0))⟩] [] [1, 2, 3, 6])
(.seq
(.seq
(.reg [⟨some 16, none, .ld (some 7) (.tmp 3)⟩,
⟨some 17, none, .mv (.tmp 1)⟩,
⟨some 18, none, .call 75 .pure [(.tmp 16), (.tmp 17)]⟩,
⟨some 9, none, .mv (.tmp 18)⟩] [] [1, 2, 3, 6, 9])
(.seq
(.reg [⟨some 19, none, .mv (.tmp 9)⟩,
⟨some 20, none, .bin .neq (.tmp 19) (.val (.int .i64 0))⟩] [] [1, 2, 3, 6, 9, 20])
(.cond (.tmp 20)
(.seq
(.reg [⟨some 21, none, .bld [(.int .i64 0), (.int .i64 0), (.list .nil 1 []), (.list .nil 1 []), (.list .nil 4 []), (.list .nil 6 []), (.list .nil 5 [])] []⟩,
⟨some 22, none, .mv (.tmp 9)⟩,
⟨none, none, .st 7 (.tmp 6) (.tmp 21)⟩,
⟨some 7, none, .mv (.val (.int .i64 0))⟩,
⟨some 8, none, .mv (.tmp 22)⟩] [] [6, 7, 8])
(.ret))
(.skip))))
(.seq
(.reg [⟨some 23, none, .ld (some 7) (.tmp 3)⟩,
⟨some 24, none, .call 76 .opn [(.tmp 23)]⟩,
⟨some 10, none, .zer 30 (.agg [(.int .i64 0), (.int .i64 0), (.list .nil 1 []), (.list .nil 1 []), (.list .nil 4 []), (.list .nil 6 []), (.list .nil 5 [])])⟩,
⟨none, none, .st 7 (.tmp 10) (.tmp 24)⟩] [] [1, 2, 6, 10])
(.seq
(.reg [⟨some 25, none, .faddr 6 (.tmp 10)⟩,
⟨some 26, none, .ld none (.tmp 25)⟩,
⟨some 27, none, .mv (.tmp 1)⟩,
⟨some 28, none, .iaS 5 (.tmp 26) (.tmp 27)⟩,
⟨some 11, none, .mv (.tmp 28)⟩] [] [1, 2, 6, 10, 11])
(.seq
(.seq
(.reg [⟨some 29, none, .mv (.tmp 11)⟩,
⟨some 30, none, .nck (.tmp 29)⟩,
⟨some 31, none, .faddr 3 (.tmp 30)⟩,
⟨some 32, none, .ld none (.tmp 31)⟩,
⟨some 33, none, .len (.tmp 32)⟩,
⟨some 34, none, .bin .eql (.tmp 33) (.val (.int .i64 0))⟩] [] [1, 2, 6, 10, 11, 34])
(.cond (.tmp 34)
(.seq
(.reg [⟨some 35, none, .ld (some 7) (.tmp 10)⟩,
⟨none, none, .st 7 (.tmp 6) (.tmp 35)⟩,
⟨some 7, none, .mv (.val (.int .i64 0))⟩,
⟨some 8, none, .mv (.val (.int .i64 0))⟩] [] [6, 7, 8])
(.ret))
(.skip)))
(.seq
(.reg [⟨some 36, none, .mv (.tmp 11)⟩,
⟨some 37, none, .nck (.tmp 36)⟩,
⟨some 38, none, .faddr 2 (.tmp 37)⟩,
⟨some 39, none, .ld none (.tmp 38)⟩,
⟨some 40, none, .mv (.tmp 11)⟩,
⟨some 41, none, .nck (.tmp 40)⟩,
⟨some 42, none, .faddr 1 (.tmp 41)⟩,
⟨some 43, none, .ld none (.tmp 42)⟩,
⟨some 44, none, .bin .add (.tmp 39) (.tmp 43)⟩,
⟨some 45, none, .nck (.tmp 36)⟩,
⟨some 46, none, .faddr 2 (.tmp 45)⟩,
⟨none, none, .st 1 (.tmp 46) (.tmp 44)⟩] [] [1, 2, 6, 10, 11])
(.seq
(.blk 0 (.loop (.seq
(.seq
(.reg [⟨some 47, none, .mv (.tmp 11)⟩,
⟨some 48, none, .nck (.tmp 47)⟩,
⟨some 49, none, .faddr 2 (.tmp 48)⟩,
⟨some 50, none, .ld none (.tmp 49)⟩,
⟨some 51, none, .bin .geq (.tmp 50) (.val (.int .i64 192))⟩] [] [1, 2, 6, 10, 11, 51])
(.cond (.tmp 51)
(.skip)
(.ext 0)))
(.blk 1 (.seq
(.reg [⟨some 53, none, .ld (some 7) (.tmp 10)⟩,
⟨some 54, none, .mv (.tmp 1)⟩,
⟨some 55, none, .mv (.tmp 2)⟩,
⟨some 56, none, .call 77 .pure [(.tmp 53), (.tmp 54), (.tmp 55)]⟩,
⟨some 52, none, .mv (.tmp 56)⟩,
⟨some 57, none, .ext 0 (.tmp 52)⟩,
⟨some 58, none, .ext 1 (.tmp 52)⟩,
⟨some 59, none, .ext 2 (.tmp 52)⟩,
⟨some 12, none, .zer 54 (.agg [(.int .i64 0), (.int .i64 0), (.int .i64 0)])⟩,
⟨none, none, .st 3 (.tmp 12) (.tmp 57)⟩,
⟨some 13, none, .mv (.tmp 58)⟩,
⟨some 14, none, .mv (.tmp 59)⟩] [] [1, 2, 6, 10, 11, 12, 13, 14])
(.seq
(.seq
(.reg [⟨some 60, none, .mv (.tmp 14)⟩,
⟨some 61, none, .bin .neq (.tmp 60) (.val (.int .i64 0))⟩] [] [1, 2, 6, 10, 11, 12, 13, 14, 61])
(.cond (.tmp 61)
(.seq
(.reg [⟨some 62, none, .mv (.tmp 11)⟩,
⟨some 63, none, .mv (.tmp 11)⟩,
⟨some 64, none, .nck (.tmp 62)⟩,
⟨some 65, none, .faddr 2 (.tmp 64)⟩,
⟨none, none, .st 1 (.tmp 65) (.val (.int .i64 191))⟩,
⟨some 66, none, .nck (.tmp 63)⟩,
⟨some 67, none, .faddr 1 (.tmp 66)⟩,
⟨none, none, .st 1 (.tmp 67) (.val (.int .i64 0))⟩] [] [6, 10, 14])
(.seq
(.reg [⟨some 68, none, .ld (some 7) (.tmp 10)⟩,
⟨some 69, none, .mv (.tmp 14)⟩,
⟨none, none, .st 7 (.tmp 6) (.tmp 68)⟩,
⟨some 7, none, .mv (.tmp 69)⟩,
⟨some 8, none, .mv (.val (.int .i64 0))⟩] [] [6, 7, 8])
(.ret)))
(.skip)))
(.seq
(.reg [⟨some 70, none, .ld (some 3) (.tmp 12)⟩,
⟨some 71, none, .bsl 1 3 [(.int .i64 0), (.int .i64 0), (.int .i64 0)] [(0, 3, (.tmp 70))]⟩,
⟨some 72, none, .mv (.tmp 11)⟩,
⟨some 73, none, .nck (.tmp 72)⟩,
⟨some 74, none, .faddr 3 (.tmp 73)⟩,
⟨some 75, none, .ld none (.tmp 74)⟩,
⟨some 76, none, .app 54 3 24 (.tmp 71) (.tmp 75)⟩,
⟨some 15, none, .mv (.tmp 76)⟩] [] [1, 2, 6, 10, 11, 12, 13, 15])
(.seq
(.reg [⟨some 77, none, .mv (.tmp 11)⟩,
⟨some 78, none, .mv (.tmp 15)⟩,
⟨some 79, none, .mv (.tmp 15)⟩,
⟨some 80, none, .len (.tmp 79)⟩,
⟨some 81, none, .mv (.tmp 11)⟩,
⟨some 82, none, .nck (.tmp 81)⟩,
⟨some 83, none, .faddr 0 (.tmp 82)⟩,
⟨some 84, none, .ld none (.tmp 83)⟩,
⟨some 85, none, .mn (.tmp 80) [(.tmp 84)]⟩,
⟨some 86, none, .slc 3 (.tmp 78) none (some (.tmp 85)) none⟩,
⟨some 87, none, .nck (.tmp 77)⟩,
⟨some 88, none, .faddr 3 (.tmp 87)⟩,
⟨none, none, .st 1 (.tmp 88) (.tmp 86)⟩] [] [1, 2, 6, 10, 11, 12, 13])
(.seq
(.reg [⟨some 89, none, .mv (.tmp 11)⟩,
⟨some 90, none, .mv (.tmp 13)⟩,
⟨some 91, none, .call 78 .pure [(.tmp 90)]⟩,
⟨some 92, none, .nck (.tmp 89)⟩,
⟨some 93, none, .faddr 4 (.tmp 92)⟩,
⟨none, none, .st 1 (.tmp 93) (.tmp 91)⟩] [] [1, 2, 6, 10, 11, 12])
(.seq
(.reg [⟨some 94, none, .mv (.tmp 11)⟩,
⟨some 95, none, .nck (.tmp 94)⟩,
⟨some 96, none, .faddr 2 (.tmp 95)⟩,
⟨some 97, none, .ld none (.tmp 96)⟩,
⟨some 98, none, .bin .sub (.tmp 97) (.val (.int .i64 192))⟩,
⟨some 99, none, .nck (.tmp 94)⟩,
⟨some 100, none, .faddr 2 (.tmp 99)⟩,
⟨none, none, .st 1 (.tmp 100) (.tmp 98)⟩] [] [1, 2, 6, 10, 11, 12])
(.seq
(.reg [⟨some 101, none, .mv (.tmp 2)⟩,
⟨some 102, none, .faddr 0 (.tmp 12)⟩,
⟨some 103, none, .ld none (.tmp 102)⟩,
⟨some 104, none, .call 79 .pure [(.tmp 101), (.tmp 103)]⟩] [] [1, 2, 6, 10, 11, 104])
(.cond (.tmp 104)
(.seq
(.reg [⟨some 105, none, .mv (.tmp 11)⟩,
⟨some 106, none, .nck (.tmp 105)⟩,
⟨some 107, none, .faddr 2 (.tmp 106)⟩,
⟨none, none, .st 1 (.tmp 107) (.val (.int .i64 0))⟩] [] [6, 10])
(.seq
(.reg [⟨some 108, none, .ld (some 7) (.tmp 10)⟩,
⟨none, none, .st 7 (.tmp 6) (.tmp 108)⟩,
⟨some 7, none, .mv (.val (.int .i64 3))⟩,
⟨some 8, none, .mv (.val (.int .i64 0))⟩] [] [6, 7, 8])
(.ret)))
(.skip)))))))))))))
(.seq
(.reg [⟨some 109, none, .ld (some 7) (.tmp 10)⟩,
⟨none, none, .st 7 (.tmp 6) (.tmp 109)⟩,
⟨some 7, none, .mv (.val (.int .i64 0))⟩,
⟨some 8, none, .mv (.val (.int .i64 0))⟩] [] [6, 7, 8])
(.ret))))))))⟩
theorem pf25_ok : fnOk Tryz.prog 25 pf25 = true := by kernel_rfl

/-- hinterland/train.Waits -/
def pf28 : PFn := ⟨95, 2, [.tmp 4, .tmp 5], .seq
(.reg [⟨some 2, none, .boxp 30 (.tmp 0)⟩,
⟨some 4, none, .mv (.val (.list .nil 1 []))⟩,
⟨some 5, none, .mv (.val (.int .i64 0))⟩] [] [1, 2])
(.seq
(.seq
(.reg [⟨some 18, none, .ld (some 7) (.tmp 2)⟩,
⟨some 19, none, .call 21 .pure [(.tmp 18)]⟩,
⟨some 6, none, .mv (.tmp 19)⟩] [] [1, 2, 6])
(.seq
(.reg [⟨some 20, none, .mv (.tmp 6)⟩,
⟨some 21, none, .bin .neq (.tmp 20) (.val (.int .i64 0))⟩] [] [1, 2, 6, 21])
(.cond (.tmp 21)
(.seq
(.reg [⟨some 22, none, .mv (.tmp 6)⟩,
⟨some 4, none, .mv (.val (.list .nil 1 []))⟩,
⟨some 5, none, .mv (.tmp 22)⟩] [] [4, 5])
(.ret))
(.skip))))
(.seq
(.seq
(.reg [⟨some 23, none, .mv (.tmp 1)⟩,
⟨some 24, none, .len (.tmp 23)⟩,
⟨some 25, none, .faddr 6 (.tmp 2)⟩,
⟨some 26, none, .ld none (.tmp 25)⟩,
⟨some 27, none, .len (.tmp 26)⟩,
⟨some 28, none, .bin .neq (.tmp 24) (.tmp 27)⟩] [] [1, 2, 28])
(.cond (.tmp 28)
(.seq
(.reg [⟨some 4, none, .mv (.val (.list .nil 1 []))⟩,
⟨some 5, none, .mv (.val (.int .i64 8))⟩] [] [4, 5])
(.ret))
(.skip)))
(.seq
(.reg [⟨some 29, none, .faddr 6 (.tmp 2)⟩,
⟨some 30, none, .ld none (.tmp 29)⟩,
⟨some 31, none, .len (.tmp 30)⟩,
⟨some 32, none, .mks 3 1 8 [(.int .i64 0)] (.tmp 31) (.tmp 31)⟩,
⟨some 7, none, .mv (.tmp 32)⟩] [] [1, 2, 7])
(.seq
(.seq
(.reg [⟨some 33, none, .faddr 6 (.tmp 2)⟩,
⟨some 34, none, .ld none (.tmp 33)⟩,
⟨some 35, none, .len (.tmp 34)⟩,
⟨some 36, none, .mv (.val (.int .i64 0))⟩] [] [1, 2, 7, 34, 35, 36])
(.blk 0 (.loop (.trim (.seq
(.reg [⟨some 37, none, .bin .lss (.tmp 36) (.tmp 35)⟩] [] [1, 2, 7, 34, 35, 36, 37])
(.seq
(.cond (.tmp 37)
(.skip)
(.ext 0))
(.seq
(.blk 1 (.seq
(.reg [⟨some 38, none, .mv (.tmp 36)⟩,
⟨some 39, none, .iaS 5 (.tmp 34) (.tmp 36)⟩,
⟨some 40, none, .ld (some 5) (.tmp 39)⟩,
⟨some 9, none, .zer 68 (.agg [(.int .i64 0), (.int .i64 0), (.int .i64 0), (.list .nil 3 []), (.list .nil 3 [])])⟩,
⟨some 8, none, .mv (.tmp 38)⟩,
⟨none, none, .st 5 (.tmp 9) (.tmp 40)⟩] [] [1, 2, 7, 8, 9, 34, 35, 36])
(.seq
(.reg [⟨some 41, none, .mv (.tmp 7)⟩,
⟨some 42, none, .mv (.tmp 8)⟩,
⟨some 43, none, .iaS 1 (.tmp 41) (.tmp 42)⟩,
⟨none, none, .st 1 (.tmp 43) (.val (.int .i64 (-1)))⟩] [] [1, 2, 7, 8, 9, 34, 35, 36])
(.seq
(.seq
(.reg [⟨some 44, none, .faddr 3 (.tmp 9)⟩,
⟨some 45, none, .ld none (.tmp 44)⟩,
⟨some 46, none, .len (.tmp 45)⟩,
⟨some 47, none, .bin .eql (.tmp 46) (.val (.int .i64 0))⟩] [] [1, 2, 7, 8, 9, 34, 35, 36, 47])
(.cond (.tmp 47)
(.ext 1)
(.skip)))
(.seq
(.reg [⟨some 48, none, .ld (some 7) (.tmp 2)⟩,
⟨some 49, none, .call 76 .opn [(.tmp 48)]⟩,
⟨some 10, none, .zer 30 (.agg [(.int .i64 0), (.int .i64 0), (.list .nil 1 []), (.list .nil 1 []), (.list .nil 4 []), (.list .nil 6 []), (.list .nil 5 [])])⟩,
⟨none, none, .st 7 (.tmp 10) (.tmp 49)⟩] [] [1, 2, 7, 8, 9, 10, 34, 35, 36])
(.seq
(.reg [⟨some 50, none, .faddr 6 (.tmp 10)⟩,
⟨some 51, none, .ld none (.tmp 50)⟩,
⟨some 52, none, .mv (.tmp 8)⟩,
⟨some 53, none, .iaS 5 (.tmp 51) (.tmp 52)⟩,
⟨some 54, none, .faddr 1 (.tmp 53)⟩,
⟨none, none, .st 1 (.tmp 54) (.val (.int .i64 192))⟩] [] [1, 2, 7, 8, 9, 10, 34, 35, 36])
(.seq
(.seq
(.reg [⟨some 56, none, .ld (some 7) (.tmp 10)⟩,
⟨some 57, none, .mv (.tmp 8)⟩,
⟨some 58, none, .mv (.tmp 1)⟩,
⟨some 59, none, .mv (.tmp 8)⟩,
⟨some 60, none, .iaS 1 (.tmp 58) (.tmp 59)⟩,
⟨some 61, none, .ld none (.tmp 60)⟩,
⟨some 62, none, .call 25 .pure [(.tmp 56), (.tmp 57), (.tmp 61)]⟩,
⟨some 55, none, .mv (.tmp 62)⟩,
⟨some 63, none, .ext 0 (.tmp 55)⟩,
⟨some 64, none, .ext 1 (.tmp 55)⟩,
⟨some 65, none, .ext 2 (.tmp 55)⟩,
⟨some 11, none, .zer 30 (.agg [(.int .i64 0), (.int .i64 0), (.list .nil 1 []), (.list .nil 1 []), (.list .nil 4 []), (.list .nil 6 []), (.list .nil 5 [])])⟩,
⟨none, none, .st 7 (.tmp 11) (.tmp 63)⟩,
⟨some 12, none, .mv (.tmp 64)⟩,
⟨some 13, none, .mv (.tmp 65)⟩] [(0, 11), (0, 12), (5, 11), (5, 12), (6, 11), (6, 12)] [1, 2, 7, 8, 9, 12, 34, 35, 36])
(.seq
(.reg [⟨some 66, none, .mv (.tmp 12)⟩,
⟨some 67, none, .bin .neq (.tmp 66) (.val (.int .i64 1))⟩] [] [1, 2, 7, 8, 9, 34, 35, 36, 67])
(.cond (.tmp 67)
(.ext 1)
(.skip))))
(.seq
(.reg [⟨some 68, none, .ld (some 5) (.tmp 9)⟩,
⟨some 69, none, .call 84 .pure [(.tmp 68)]⟩,
⟨some 14, none, .zer 54 (.agg [(.int .i64 0), (.int .i64 0), (.int .i64 0)])⟩,
⟨none, none, .st 3 (.tmp 14) (.tmp 69)⟩] [] [1, 2, 7, 8, 14, 34, 35, 36])
(.seq
(.reg [⟨some 70, none, .ld (some 7) (.tmp 2)⟩,
⟨some 71, none, .call 60 .pure [(.tmp 70)]⟩,
⟨some 15, none, .zer 90 (.agg [(.int .i64 0), (.int .i64 0), (.list .nil 1 []), (.list .nil 1 []), (.list .nil 4 []), (.list .nil 6 []), (.list .nil 5 []), .nilmap, .nilmap])⟩,
⟨none, none, .st 9 (.tmp 15) (.tmp 71)⟩] [] [1, 2, 7, 8, 14, 15, 34, 35, 36])
(.seq
(.reg [⟨some 73, none, .ld (some 9) (.tmp 15)⟩,
⟨some 74, none, .mv (.tmp 8)⟩,
⟨some 75, none, .ld (some 3) (.tmp 14)⟩,
⟨some 76, none, .mv (.tmp 1)⟩,
⟨some 77, none, .mv (.tmp 8)⟩,
⟨some 78, none, .iaS 1 (.tmp 76) (.tmp 77)⟩,
⟨some 79, none, .ld none (.tmp 78)⟩,
⟨some 80, none, .call 85 .pure [(.tmp 73), (.tmp 74), (.tmp 75), (.tmp 79)]⟩,
⟨some 81, none, .ld (some 3) (.tmp 14)⟩,
⟨some 82, none, .call 86 .pure [(.tmp 80), (.tmp 81)]⟩,
⟨some 72, none, .mv (.tmp 82)⟩,
⟨some 83, none, .ext 0 (.tmp 72)⟩,
⟨some 84, none, .ext 1 (.tmp 72)⟩,
⟨some 16, none, .zer 54 (.agg [(.int .i64 0), (.int .i64 0), (.int .i64 0)])⟩,
⟨none, none, .st 3 (.tmp 16) (.tmp 83)⟩,
⟨some 17, none, .mv (.tmp 84)⟩] [(0, 13), (0, 14), (2, 13), (2, 14), (6, 13), (6, 14), (7, 13), (7, 14), (8, 13), (8, 14), (9, 13), (9, 14)] [1, 2, 7, 8, 15, 16, 17, 34, 35, 36])
(.seq
(.reg [⟨some 85, none, .mv (.tmp 17)⟩] [] [1, 2, 7, 8, 15, 16, 34, 35, 36, 85])
(.cond (.tmp 85)
(.reg [⟨some 86, none, .mv (.tmp 7)⟩,
⟨some 87, none, .mv (.tmp 8)⟩,
⟨some 88, none, .ld (some 9) (.tmp 15)⟩,
⟨some 89, none, .mv (.tmp 8)⟩,
⟨some 90, none, .ld (some 3) (.tmp 16)⟩,
⟨some 91, none, .call 87 .pure [(.tmp 88), (.tmp 89), (.tmp 90)]⟩,
⟨some 92, none, .iaS 1 (.tmp 86) (.tmp 87)⟩,
⟨none, none, .st 1 (.tmp 92) (.tmp 91)⟩] [] [1, 2, 7, 34, 35, 36])
(.skip)))))))))))))
(.reg [⟨some 93, none, .bin .add (.tmp 36) (.val (.int .i64 1))⟩,
⟨some 36, none, .mv (.tmp 93)⟩] [] [1, 2, 7, 34, 35, 36]))))))))
(.seq
(.reg [⟨some 94, none, .mv (.tmp 7)⟩,
⟨some 4, none, .mv (.tmp 94)⟩,
⟨some 5, none, .mv (.val (.int .i64 0))⟩] [] [4, 5])
(.ret))))))⟩
theorem pf28_ok : fnOk Tryz.prog 28 pf28 = true := by kernel_rfl

/-- hinterland/hinterlandsame.List[int] -/
def pf30 : PFn := ⟨26, 2, [.tmp 4], .seq
(.reg [⟨some 4, none, .mv (.val (.bool false))⟩] [] [0, 1])
(.seq
(.seq
(.reg [⟨some 6, none, .mv (.tmp 0)⟩,
⟨some 7, none, .len (.tmp 6)⟩,
⟨some 8, none, .mv (.tmp 1)⟩,
⟨some 9, none, .len (.tmp 8)⟩,
⟨some 10, none, .bin .neq (.tmp 7) (.tmp 9)⟩] [] [0, 1, 10])
(.cond (.tmp 10)
(.seq
(.reg [⟨some 4, none, .mv (.val (.bool false))⟩] [] [4])
(.ret))
(.skip)))
(.seq
(.seq
(.reg [⟨some 5, none, .mv (.val (.int .i64 0))⟩] [] [0, 1, 5])
(.blk 0 (.loop (.seq
(.seq
(.reg [⟨some 11, none, .mv (.tmp 5)⟩,
⟨some 12, none, .mv (.tmp 0)⟩,
⟨some 13, none, .len (.tmp 12)⟩,
⟨some 14, none, .bin .lss (.tmp 11) (.tmp 13)⟩] [] [0, 1, 5, 14])
(.cond (.tmp 14)
(.skip)
(.ext 0)))
(.seq
(.blk 1 (.seq
(.reg [⟨some 17, none, .mv (.tmp 0)⟩,
⟨some 18, none, .mv (.tmp 5)⟩,
⟨some 19, none, .iaS 1 (.tmp 17) (.tmp 18)⟩,
⟨some 20, none, .ld none (.tmp 19)⟩,
⟨some 21, none, .mv (.tmp 1)⟩,
⟨some 22, none, .mv (.tmp 5)⟩,
⟨some 23, none, .iaS 1 (.tmp 21) (.tmp 22)⟩,
⟨some 24, none, .ld none (.tmp 23)⟩,
⟨some 25, none, .bin .neq (.tmp 20) (.tmp 24)⟩] [] [0, 1, 5, 25])
(.cond (.tmp 25)
(.seq
(.reg [⟨some 4, none, .mv (.val (.bool false))⟩] [] [4])
(.ret))
(.skip))))
(.reg [⟨some 15, none, .mv (.tmp 5)⟩,
⟨some 16, none, .bin .add (.tmp 15) (.val (.int .i64 1))⟩,
⟨some 5, none, .mv (.tmp 16)⟩] [] [0, 1, 5]))))))
(.seq
(.reg [⟨some 4, none, .mv (.val (.bool true))⟩] [] [4])
(.ret))))⟩
theorem pf30_ok : fnOk Tryz.prog 30 pf30 = true := by kernel_rfl

/-- hinterland/train.Ring -/
def pf31 : PFn := ⟨55, 1, [.tmp 2, .tmp 3], .seq
(.reg [⟨some 2, none, .mv (.val (.list .nil 1 []))⟩,
⟨some 3, none, .mv (.val (.int .i64 0))⟩] [] [0])
(.seq
(.seq
(.reg [⟨some 9, none, .mv (.tmp 0)⟩,
⟨some 10, none, .len (.tmp 9)⟩,
⟨some 11, none, .mv (.val (.int .i64 0))⟩] [] [0, 9, 10, 11])
(.blk 0 (.loop (.seq
(.reg [⟨some 12, none, .bin .lss (.tmp 11) (.tmp 10)⟩] [] [0, 9, 10, 11, 12])
(.seq
(.cond (.tmp 12)
(.skip)
(.ext 0))
(.seq
(.blk 1 (.seq
(.reg [⟨some 13, none, .iaS 1 (.tmp 9) (.tmp 11)⟩,
⟨some 14, none, .ld none (.tmp 13)⟩,
⟨some 5, none, .mv (.tmp 14)⟩] [] [0, 5, 9, 10, 11])
(.seq
(.reg [⟨some 15, none, .mv (.tmp 5)⟩,
⟨some 16, none, .bin .lss (.tmp 15) (.val (.int .i64 (-1)))⟩,
⟨some 17, none, .mv (.tmp 16)⟩,
⟨some 18, (some (17, false)), .mv (.tmp 5)⟩,
⟨some 19, (some (17, false)), .mv (.tmp 0)⟩,
⟨some 20, (some (17, false)), .len (.tmp 19)⟩,
⟨some 21, (some (17, false)), .bin .geq (.tmp 18) (.tmp 20)⟩,
⟨some 22, none, .pick (.tmp 17) (.val (.bool true)) (.tmp 21)⟩] [] [0, 9, 10, 11, 22])
(.cond (.tmp 22)
(.seq
(.reg [⟨some 2, none, .mv (.val (.list .nil 1 []))⟩,
⟨some 3, none, .mv (.val (.int .i64 1))⟩] [] [2, 3])
(.ret))
(.skip)))))
(.reg [⟨some 23, none, .bin .add (.tmp 11) (.val (.int .i64 1))⟩,
⟨some 11, none, .mv (.tmp 23)⟩] [] [0, 9, 10, 11])))))))
(.seq
(.reg [⟨some 6, none, .nacc 3 1⟩] [] [0, 6])
(.seq
(.seq
(.reg [⟨some 24, none, .mv (.tmp 0)⟩,
⟨some 25, none, .len (.tmp 24)⟩,
⟨some 26, none, .mv (.val (.int .i64 0))⟩] [] [0, 6, 25, 26])
(.blk 2 (.loop (.seq
(.reg [⟨some 27, none, .bin .lss (.tmp 26) (.tmp 25)⟩] [] [0, 6, 25, 26, 27])
(.seq
(.cond (.tmp 27)
(.skip)
(.ext 2))
(.seq
(.blk 3 (.seq
(.reg [⟨some 28, none, .mv (.tmp 26)⟩,
⟨some 7, none, .mv (.tmp 28)⟩] [] [0, 6, 7, 25, 26])
(.seq
(.reg [⟨some 29, none, .mv (.tmp 7)⟩,
⟨some 8, none, .mv (.tmp 29)⟩] [] [0, 6, 7, 8, 25, 26])
(.seq
(.seq
(.reg [⟨some 30, none, .mv (.tmp 0)⟩,
⟨some 31, none, .len (.tmp 30)⟩,
⟨some 32, none, .mv (.val (.int .i64 0))⟩] [] [0, 6, 7, 8, 25, 26, 31, 32])
(.blk 4 (.loop (.seq
(.reg [⟨some 33, none, .bin .lss (.tmp 32) (.tmp 31)⟩] [] [0, 6, 7, 8, 25, 26, 31, 32, 33])
(.seq
(.cond (.tmp 33)
(.skip)
(.ext 4))
(.seq
(.blk 5 (.seq
(.reg [⟨some 34, none, .mv (.tmp 0)⟩,
⟨some 35, none, .mv (.tmp 8)⟩,
⟨some 36, none, .iaS 1 (.tmp 34) (.tmp 35)⟩,
⟨some 37, none, .ld none (.tmp 36)⟩,
⟨some 8, none, .mv (.tmp 37)⟩] [] [0, 6, 7, 8, 25, 26, 31, 32])
(.seq
(.reg [⟨some 38, none, .mv (.tmp 8)⟩,
⟨some 39, none, .bin .lss (.tmp 38) (.val (.int .i64 0))⟩,
⟨some 40, none, .mv (.tmp 39)⟩,
⟨some 41, (some (40, false)), .mv (.tmp 8)⟩,
⟨some 42, (some (40, false)), .mv (.tmp 7)⟩,
⟨some 43, (some (40, false)), .bin .eql (.tmp 41) (.tmp 42)⟩,
⟨some 44, none, .pick (.tmp 40) (.val (.bool true)) (.tmp 43)⟩] [] [0, 6, 7, 8, 25, 26, 31, 32, 44])
(.cond (.tmp 44)
(.ext 4)
(.skip)))))
(.reg [⟨some 45, none, .bin .add (.tmp 32) (.val (.int .i64 1))⟩,
⟨some 32, none, .mv (.tmp 45)⟩] [] [0, 6, 7, 8, 25, 26, 31, 32])))))))
(.seq
(.reg [⟨some 46, none, .mv (.tmp 8)⟩,
⟨some 47, none, .mv (.tmp 7)⟩,
⟨some 48, none, .bin .eql (.tmp 46) (.tmp 47)⟩] [] [0, 6, 7, 25, 26, 48])
(.cond (.tmp 48)
(.reg [⟨some 49, none, .mv (.tmp 6)⟩,
⟨some 50, none, .mv (.tmp 7)⟩,
⟨some 51, none, .bsl 1 1 [(.int .i64 0)] [(0, 1, (.tmp 50))]⟩,
⟨some 52, none, .app 3 1 8 (.tmp 49) (.tmp 51)⟩,
⟨some 6, none, .mv (.tmp 52)⟩] [] [0, 6, 25, 26])
(.skip)))))))
(.reg [⟨some 53, none, .bin .add (.tmp 26) (.val (.int .i64 1))⟩,
⟨some 26, none, .mv (.tmp 53)⟩] [] [0, 6, 25, 26])))))))
(.seq
(.reg [⟨some 54, none, .mv (.tmp 6)⟩,
⟨some 2, none, .mv (.tmp 54)⟩,
⟨some 3, none, .mv (.val (.int .i64 0))⟩] [] [2, 3])
(.ret)))))⟩
theorem pf31_ok : fnOk Tryz.prog 31 pf31 = true := by kernel_rfl

/-- hinterland/hinterlandref16.Ring -/
def pf32 : PFn := ⟨58, 1, [.tmp 2, .tmp 3], .seq
(.reg [⟨some 2, none, .mv (.val (.list .nil 1 []))⟩,
⟨some 3, none, .mv (.val (.int .i64 0))⟩] [] [0])
(.seq
(.seq
(.reg [⟨some 9, none, .mv (.tmp 0)⟩,
⟨some 10, none, .len (.tmp 9)⟩,
⟨some 11, none, .mv (.val (.int .i64 0))⟩] [] [0, 9, 10, 11])
(.blk 0 (.loop (.seq
(.reg [⟨some 12, none, .bin .lss (.tmp 11) (.tmp 10)⟩] [] [0, 9, 10, 11, 12])
(.seq
(.cond (.tmp 12)
(.skip)
(.ext 0))
(.seq
(.blk 1 (.seq
(.reg [⟨some 13, none, .iaS 1 (.tmp 9) (.tmp 11)⟩,
⟨some 14, none, .ld none (.tmp 13)⟩,
⟨some 5, none, .mv (.tmp 14)⟩] [] [0, 5, 9, 10, 11])
(.seq
(.reg [⟨some 15, none, .mv (.tmp 5)⟩,
⟨some 16, none, .bin .lss (.tmp 15) (.val (.int .i64 (-1)))⟩,
⟨some 17, none, .mv (.tmp 16)⟩,
⟨some 18, (some (17, false)), .mv (.tmp 5)⟩,
⟨some 19, (some (17, false)), .mv (.tmp 0)⟩,
⟨some 20, (some (17, false)), .len (.tmp 19)⟩,
⟨some 21, (some (17, false)), .bin .geq (.tmp 18) (.tmp 20)⟩,
⟨some 22, none, .pick (.tmp 17) (.val (.bool true)) (.tmp 21)⟩] [] [0, 9, 10, 11, 22])
(.cond (.tmp 22)
(.seq
(.reg [⟨some 2, none, .mv (.val (.list .nil 1 []))⟩,
⟨some 3, none, .mv (.val (.int .i64 1))⟩] [] [2, 3])
(.ret))
(.skip)))))
(.reg [⟨some 23, none, .bin .add (.tmp 11) (.val (.int .i64 1))⟩,
⟨some 11, none, .mv (.tmp 23)⟩] [] [0, 9, 10, 11])))))))
(.seq
(.reg [⟨some 6, none, .nacc 3 1⟩] [] [0, 6])
(.seq
(.seq
(.reg [⟨some 24, none, .mv (.tmp 0)⟩,
⟨some 25, none, .len (.tmp 24)⟩,
⟨some 26, none, .mv (.val (.int .i64 0))⟩] [] [0, 6, 25, 26])
(.blk 2 (.loop (.seq
(.reg [⟨some 27, none, .bin .lss (.tmp 26) (.tmp 25)⟩] [] [0, 6, 25, 26, 27])
(.seq
(.cond (.tmp 27)
(.skip)
(.ext 2))
(.seq
(.blk 3 (.seq
(.reg [⟨some 28, none, .mv (.tmp 26)⟩,
⟨some 7, none, .mv (.tmp 28)⟩] [] [0, 6, 7, 25, 26])
(.seq
(.reg [⟨some 29, none, .mv (.tmp 0)⟩,
⟨some 30, none, .mv (.tmp 7)⟩,
⟨some 31, none, .iaS 1 (.tmp 29) (.tmp 30)⟩,
⟨some 32, none, .ld none (.tmp 31)⟩,
⟨some 8, none, .mv (.tmp 32)⟩] [] [0, 6, 7, 8, 25, 26])
(.seq
(.seq
(.reg [⟨some 33, none, .mv (.tmp 0)⟩,
⟨some 34, none, .len (.tmp 33)⟩,
⟨some 35, none, .mv (.val (.int .i64 0))⟩] [] [0, 6, 7, 8, 25, 26, 34, 35])
(.blk 4 (.loop (.seq
(.reg [⟨some 36, none, .bin .lss (.tmp 35) (.tmp 34)⟩] [] [0, 6, 7, 8, 25, 26, 34, 35, 36])
(.seq
(.cond (.tmp 36)
(.skip)
(.ext 4))
(.seq
(.blk 5 (.seq
(.seq
(.reg [⟨some 37, none, .mv (.tmp 8)⟩,
⟨some 38, none, .bin .lss (.tmp 37) (.val (.int .i64 0))⟩,
⟨some 39, none, .mv (.tmp 38)⟩,
⟨some 40, (some (39, false)), .mv (.tmp 8)⟩,
⟨some 41, (some (39, false)), .mv (.tmp 7)⟩,
⟨some 42, (some (39, false)), .bin .eql (.tmp 40) (.tmp 41)⟩,
⟨some 43, none, .pick (.tmp 39) (.val (.bool true)) (.tmp 42)⟩] [] [0, 6, 7, 8, 25, 26, 34, 35, 43])
(.cond (.tmp 43)
(.ext 4)
(.skip)))
(.reg [⟨some 44, none, .mv (.tmp 0)⟩,
⟨some 45, none, .mv (.tmp 8)⟩,
⟨some 46, none, .iaS 1 (.tmp 44) (.tmp 45)⟩,
⟨some 47, none, .ld none (.tmp 46)⟩,
⟨some 8, none, .mv (.tmp 47)⟩] [] [0, 6, 7, 8, 25, 26, 34, 35])))
(.reg [⟨some 48, none, .bin .add (.tmp 35) (.val (.int .i64 1))⟩,
⟨some 35, none, .mv (.tmp 48)⟩] [] [0, 6, 7, 8, 25, 26, 34, 35])))))))
(.seq
(.reg [⟨some 49, none, .mv (.tmp 8)⟩,
⟨some 50, none, .mv (.tmp 7)⟩,
⟨some 51, none, .bin .eql (.tmp 49) (.tmp 50)⟩] [] [0, 6, 7, 25, 26, 51])
(.cond (.tmp 51)
(.reg [⟨some 52, none, .mv (.tmp 6)⟩,
⟨some 53, none, .mv (.tmp 7)⟩,
⟨some 54, none, .bsl 1 1 [(.int .i64 0)] [(0, 1, (.tmp 53))]⟩,
⟨some 55, none, .app 3 1 8 (.tmp 52) (.tmp 54)⟩,
⟨some 6, none, .mv (.tmp 55)⟩] [] [0, 6, 25, 26])
(.skip)))))))
(.reg [⟨some 56, none, .bin .add (.tmp 26) (.val (.int .i64 1))⟩,
⟨some 26, none, .mv (.tmp 56)⟩] [] [0, 6, 25, 26])))))))
(.seq
(.reg [⟨some 57, none, .mv (.tmp 6)⟩,
⟨some 2, none, .mv (.tmp 57)⟩,
⟨some 3, none, .mv (.val (.int .i64 0))⟩] [] [2, 3])
(.ret)))))⟩
theorem pf32_ok : fnOk Tryz.prog 32 pf32 = true := by kernel_rfl

/-- hinterland/hinterlandlaw16.hits -/
def pf33 : PFn := ⟨17, 2, [.tmp 4], .seq
(.reg [⟨some 4, none, .mv (.val (.bool false))⟩] [] [0, 1])
(.seq
(.seq
(.reg [⟨some 7, none, .mv (.tmp 0)⟩,
⟨some 8, none, .len (.tmp 7)⟩,
⟨some 9, none, .mv (.val (.int .i64 0))⟩] [] [1, 7, 8, 9])
(.blk 0 (.loop (.seq
(.reg [⟨some 10, none, .bin .lss (.tmp 9) (.tmp 8)⟩] [] [1, 7, 8, 9, 10])
(.seq
(.cond (.tmp 10)
(.skip)
(.ext 0))
(.seq
(.blk 1 (.seq
(.reg [⟨some 11, none, .iaS 1 (.tmp 7) (.tmp 9)⟩,
⟨some 12, none, .ld none (.tmp 11)⟩,
⟨some 6, none, .mv (.tmp 12)⟩] [] [1, 6, 7, 8, 9])
(.seq
(.reg [⟨some 13, none, .mv (.tmp 6)⟩,
⟨some 14, none, .mv (.tmp 1)⟩,
⟨some 15, none, .bin .eql (.tmp 13) (.tmp 14)⟩] [] [1, 7, 8, 9, 15])
(.cond (.tmp 15)
(.seq
(.reg [⟨some 4, none, .mv (.val (.bool true))⟩] [] [4])
(.ret))
(.skip)))))
(.reg [⟨some 16, none, .bin .add (.tmp 9) (.val (.int .i64 1))⟩,
⟨some 9, none, .mv (.tmp 16)⟩] [] [1, 7, 8, 9])))))))
(.seq
(.reg [⟨some 4, none, .mv (.val (.bool false))⟩] [] [4])
(.ret)))⟩
theorem pf33_ok : fnOk Tryz.prog 33 pf33 = true := by kernel_rfl

/-- hinterland/hinterlandlaw16.line -/
def pf53 : PFn := ⟨25, 0, [.cell 0 (some 7)], .seq
(.reg [⟨some 0, none, .zer 30 (.agg [(.int .i64 0), (.int .i64 0), (.list .nil 1 []), (.list .nil 1 []), (.list .nil 4 []), (.list .nil 6 []), (.list .nil 5 [])])⟩] [] [0])
(.seq
(.reg [⟨some 3, none, .mks 3 1 8 [(.int .i64 0)] (.val (.int .i64 16)) (.val (.int .i64 16))⟩,
⟨some 4, none, .mks 4 1 1 [(.bool false)] (.val (.int .i64 16)) (.val (.int .i64 16))⟩,
⟨some 5, none, .bld [(.int .i64 0), (.int .i64 0), (.list .nil 1 []), (.list .nil 1 [])] [(0, 1, (.val (.int .i64 4))), (1, 1, (.val (.int .i64 4))), (2, 1, (.tmp 3)), (3, 1, (.tmp 4))]⟩,
⟨some 6, none, .bld [(.int .i64 0), (.int .i64 0), (.list .nil 1 []), (.list .nil 1 []), (.list .nil 4 []), (.list .nil 6 []), (.list .nil 5 [])] [(0, 4, (.tmp 5))]⟩,
⟨some 1, none, .zer 30 (.agg [(.int .i64 0), (.int .i64 0), (.list .nil 1 []), (.list .nil 1 []), (.list .nil 4 []), (.list .nil 6 []), (.list .nil 5 [])])⟩,
⟨none, none, .st 7 (.tmp 1) (.tmp 6)⟩] [] [0, 1])
(.seq
(.seq
(.reg [⟨some 7, none, .mv (.val (.int .i64 0))⟩] [] [0, 1, 7])
(.blk 0 (.loop (.seq
(.reg [⟨some 8, none, .bin .lss (.tmp 7) (.val (.int .i64 4))⟩] [] [0, 1, 7, 8])
(.seq
(.cond (.tmp 8)
(.skip)
(.ext 0))
(.seq
(.blk 1 (.seq
(.reg [⟨some 9, none, .mv (.tmp 7)⟩,
⟨some 2, none, .mv (.tmp 9)⟩] [] [0, 1, 2, 7])
(.reg [⟨some 10, none, .faddr 0 (.tmp 1)⟩,
⟨some 11, none, .faddr 2 (.tmp 10)⟩,
⟨some 12, none, .ld none (.tmp 11)⟩,
⟨some 13, none, .mv (.tmp 2)⟩,
⟨some 14, none, .iaS 1 (.tmp 12) (.tmp 13)⟩,
⟨none, none, .st 1 (.tmp 14) (.val (.int .i64 1))⟩] [] [0, 1, 7])))
(.reg [⟨some 15, none, .bin .add (.tmp 7) (.val (.int .i64 1))⟩,
⟨some 7, none, .mv (.tmp 15)⟩] [] [0, 1, 7])))))))
(.seq
(.reg [⟨some 16, none, .bld [(.int .i64 0), (.int .i64 0), (.int .i64 0)] [(0, 1, (.val (.int .i64 0))), (1, 1, (.val (.int .i64 0))), (2, 1, (.val (.int .i64 0)))]⟩,
⟨some 17, none, .bsl 1 3 [(.int .i64 0), (.int .i64 0), (.int .i64 0)] [(0, 3, (.tmp 16))]⟩,
⟨some 18, none, .bld [(.int .i64 0), (.int .i64 0), (.int .i64 0), (.list .nil 3 []), (.list .nil 3 [])] [(0, 1, (.val (.int .i64 1))), (1, 1, (.val (.int .i64 192))), (3, 1, (.tmp 17))]⟩,
⟨some 19, none, .bld [(.int .i64 0), (.int .i64 0), (.int .i64 0)] [(0, 1, (.val (.int .i64 3))), (1, 1, (.val (.int .i64 0))), (2, 1, (.val (.int .i64 2)))]⟩,
⟨some 20, none, .bsl 1 3 [(.int .i64 0), (.int .i64 0), (.int .i64 0)] [(0, 3, (.tmp 19))]⟩,
⟨some 21, none, .bld [(.int .i64 0), (.int .i64 0), (.int .i64 0), (.list .nil 3 []), (.list .nil 3 [])] [(0, 1, (.val (.int .i64 1))), (1, 1, (.val (.int .i64 192))), (3, 1, (.tmp 20))]⟩,
⟨some 22, none, .bsl 2 5 [(.int .i64 0), (.int .i64 0), (.int .i64 0), (.list .nil 3 []), (.list .nil 3 [])] [(0, 5, (.tmp 18)), (5, 5, (.tmp 21))]⟩,
⟨some 23, none, .faddr 6 (.tmp 1)⟩,
⟨none, none, .st 1 (.tmp 23) (.tmp 22)⟩] [] [0, 1])
(.seq
(.reg [⟨some 24, none, .ld (some 7) (.tmp 1)⟩,
⟨none, none, .st 7 (.tmp 0) (.tmp 24)⟩] [] [0])
(.ret)))))⟩
theorem pf53_ok : fnOk Tryz.prog 53 pf53 = true := by kernel_rfl

/-- hinterland/block.Validate -/
def pf54 : PFn := ⟨70, 2, [.tmp 4], .seq
(.reg [⟨some 2, none, .boxp 25 (.tmp 0)⟩,
⟨some 4, none, .mv (.val (.int .i64 0))⟩] [] [1, 2])
(.seq
(.seq
(.reg [⟨some 10, none, .ld (some 4) (.tmp 2)⟩,
⟨some 11, none, .call 104 .pure [(.tmp 10)]⟩,
⟨some 5, none, .mv (.tmp 11)⟩] [] [1, 2, 5])
(.seq
(.reg [⟨some 12, none, .mv (.tmp 5)⟩,
⟨some 13, none, .bin .neq (.tmp 12) (.val (.int .i64 0))⟩] [] [1, 2, 5, 13])
(.cond (.tmp 13)
(.seq
(.reg [⟨some 14, none, .mv (.tmp 5)⟩,
⟨some 4, none, .mv (.tmp 14)⟩] [] [4])
(.ret))
(.skip))))
(.seq
(.seq
(.reg [⟨some 15, none, .mv (.tmp 1)⟩,
⟨some 16, none, .len (.tmp 15)⟩,
⟨some 17, none, .mv (.val (.int .i64 0))⟩] [] [1, 2, 15, 16, 17])
(.blk 0 (.loop (.trim (.seq
(.reg [⟨some 18, none, .bin .lss (.tmp 17) (.tmp 16)⟩] [] [1, 2, 15, 16, 17, 18])
(.seq
(.cond (.tmp 18)
(.skip)
(.ext 0))
(.seq
(.blk 1 (.seq
(.reg [⟨some 19, none, .mv (.tmp 17)⟩,
⟨some 20, none, .iaS 4 (.tmp 15) (.tmp 17)⟩,
⟨some 21, none, .ld (some 4) (.tmp 20)⟩,
⟨some 7, none, .zer 75 (.agg [(.int .i64 0), (.int .i64 0), (.int .i64 0), (.int .i64 0)])⟩,
⟨some 6, none, .mv (.tmp 19)⟩,
⟨none, none, .st 4 (.tmp 7) (.tmp 21)⟩] [] [1, 2, 6, 7, 15, 16, 17])
(.seq
(.reg [⟨some 22, none, .faddr 3 (.tmp 7)⟩,
⟨some 23, none, .ld none (.tmp 22)⟩,
⟨some 24, none, .bin .lss (.tmp 23) (.val (.int .i64 0))⟩,
⟨some 25, none, .mv (.tmp 24)⟩,
⟨some 26, (some (25, false)), .faddr 3 (.tmp 7)⟩,
⟨some 27, (some (25, false)), .ld none (.tmp 26)⟩,
⟨some 28, (some (25, false)), .bin .geq (.tmp 27) (.val (.int .i64 6))⟩,
⟨some 29, none, .pick (.tmp 25) (.val (.bool true)) (.tmp 28)⟩,
⟨some 30, none, .mv (.tmp 29)⟩,
⟨some 31, (some (30, false)), .mv (.tmp 6)⟩,
⟨some 32, (some (30, false)), .bin .gtr (.tmp 31) (.val (.int .i64 0))⟩,
⟨some 33, (some (30, false)), .mv (.tmp 32)⟩,
⟨some 34, (some (33, true)), .mv (.tmp 1)⟩,
⟨some 35, (some (33, true)), .mv (.tmp 6)⟩,
⟨some 36, (some (33, true)), .bin .sub (.tmp 35) (.val (.int .i64 1))⟩,
⟨some 37, (some (33, true)), .iaS 4 (.tmp 34) (.tmp 36)⟩,
⟨some 38, (some (33, true)), .ld (some 4) (.tmp 37)⟩,
⟨some 39, (some (33, true)), .ld (some 4) (.tmp 7)⟩,
⟨some 40, (some (33, true)), .call 105 .pure [(.tmp 38), (.tmp 39)]⟩,
⟨some 41, (some (33, true)), .bin .geq (.tmp 40) (.val (.int .i64 0))⟩,
⟨some 42, (some (30, false)), .pick (.tmp 33) (.tmp 41) (.val (.bool false))⟩,
⟨some 43, none, .pick (.tmp 30) (.val (.bool true)) (.tmp 42)⟩] [] [1, 2, 15, 16, 17, 43])
(.cond (.tmp 43)
(.seq
(.reg [⟨some 4, none, .mv (.val (.int .i64 1))⟩] [] [4])
(.ret))
(.skip)))))
(.reg [⟨some 44, none, .bin .add (.tmp 17) (.val (.int .i64 1))⟩,
⟨some 17, none, .mv (.tmp 44)⟩] [] [1, 2, 15, 16, 17]))))))))
(.seq
(.seq
(.reg [⟨some 45, none, .mv (.tmp 1)⟩,
⟨some 46, none, .len (.tmp 45)⟩,
⟨some 47, none, .bin .gtr (.tmp 46) (.val (.int .i64 300))⟩] [] [1, 2, 47])
(.cond (.tmp 47)
(.seq
(.reg [⟨some 4, none, .mv (.val (.int .i64 1))⟩] [] [4])
(.ret))
(.skip)))
(.seq
(.seq
(.reg [⟨some 48, none, .mv (.tmp 1)⟩,
⟨some 49, none, .len (.tmp 48)⟩,
⟨some 50, none, .mv (.val (.int .i64 0))⟩] [] [2, 48, 49, 50])
(.blk 2 (.loop (.trim (.seq
(.reg [⟨some 51, none, .bin .lss (.tmp 50) (.tmp 49)⟩] [] [2, 48, 49, 50, 51])
(.seq
(.cond (.tmp 51)
(.skip)
(.ext 2))
(.seq
(.blk 3 (.seq
(.reg [⟨some 52, none, .iaS 4 (.tmp 48) (.tmp 50)⟩,
⟨some 53, none, .ld (some 4) (.tmp 52)⟩,
⟨some 9, none, .zer 75 (.agg [(.int .i64 0), (.int .i64 0), (.int .i64 0), (.int .i64 0)])⟩,
⟨none, none, .st 4 (.tmp 9) (.tmp 53)⟩] [] [2, 9, 48, 49, 50])
(.seq
(.reg [⟨some 54, none, .ld (some 4) (.tmp 2)⟩,
⟨some 55, none, .faddr 0 (.tmp 9)⟩,
⟨some 56, none, .ld none (.tmp 55)⟩,
⟨some 57, none, .faddr 1 (.tmp 9)⟩,
⟨some 58, none, .ld none (.tmp 57)⟩,
⟨some 59, none, .call 106 .pure [(.tmp 54), (.tmp 56), (.tmp 58)]⟩,
⟨some 60, none, .un .not (.tmp 59)⟩,
⟨some 61, none, .mv (.tmp 60)⟩,
⟨some 62, (some (61, false)), .faddr 1 (.tmp 9)⟩,
⟨some 63, (some (61, false)), .ld none (.tmp 62)⟩,
⟨some 64, (some (61, false)), .faddr 2 (.tmp 9)⟩,
⟨some 65, (some (61, false)), .ld none (.tmp 64)⟩,
⟨some 66, (some (61, false)), .call 107 .pure [(.tmp 63), (.tmp 65)]⟩,
⟨some 67, (some (61, false)), .un .not (.tmp 66)⟩,
⟨some 68, none, .pick (.tmp 61) (.val (.bool true)) (.tmp 67)⟩] [] [2, 48, 49, 50, 68])
(.cond (.tmp 68)
(.seq
(.reg [⟨some 4, none, .mv (.val (.int .i64 2))⟩] [] [4])
(.ret))
(.skip)))))
(.reg [⟨some 69, none, .bin .add (.tmp 50) (.val (.int .i64 1))⟩,
⟨some 50, none, .mv (.tmp 69)⟩] [] [2, 48, 49, 50]))))))))
(.seq
(.reg [⟨some 4, none, .mv (.val (.int .i64 0))⟩] [] [4])
(.ret))))))⟩
theorem pf54_ok : fnOk Tryz.prog 54 pf54 = true := by kernel_rfl

/-- cmp.Or[int] -/
def pf55 : PFn := ⟨18, 1, [.tmp 2], .seq
(.reg [⟨some 2, none, .mv (.val (.int .i64 0))⟩] [] [0])
(.seq
(.reg [⟨some 3, none, .mv (.val (.int .i64 0))⟩] [] [0, 3])
(.seq
(.seq
(.reg [⟨some 6, none, .mv (.tmp 0)⟩,
⟨some 7, none, .len (.tmp 6)⟩,
⟨some 8, none, .mv (.val (.int .i64 0))⟩] [] [3, 6, 7, 8])
(.blk 0 (.loop (.seq
(.reg [⟨some 9, none, .bin .lss (.tmp 8) (.tmp 7)⟩] [] [3, 6, 7, 8, 9])
(.seq
(.cond (.tmp 9)
(.skip)
(.ext 0))
(.seq
(.blk 1 (.seq
(.reg [⟨some 10, none, .iaS 1 (.tmp 6) (.tmp 8)⟩,
⟨some 11, none, .ld none (.tmp 10)⟩,
⟨some 5, none, .mv (.tmp 11)⟩] [] [3, 5, 6, 7, 8])
(.seq
(.reg [⟨some 12, none, .mv (.tmp 5)⟩,
⟨some 13, none, .mv (.tmp 3)⟩,
⟨some 14, none, .bin .neq (.tmp 12) (.tmp 13)⟩] [] [3, 5, 6, 7, 8, 14])
(.cond (.tmp 14)
(.seq
(.reg [⟨some 15, none, .mv (.tmp 5)⟩,
⟨some 2, none, .mv (.tmp 15)⟩] [] [2])
(.ret))
(.skip)))))
(.reg [⟨some 16, none, .bin .add (.tmp 8) (.val (.int .i64 1))⟩,
⟨some 8, none, .mv (.tmp 16)⟩] [] [3, 6, 7, 8])))))))
(.seq
(.reg [⟨some 17, none, .mv (.tmp 3)⟩,
⟨some 2, none, .mv (.tmp 17)⟩] [] [2])
(.ret))))⟩
theorem pf55_ok : fnOk Tryz.prog 55 pf55 = true := by kernel_rfl

/-- hinterland/train.compare -/
def pf56 : PFn := ⟨22, 2, [.tmp 4], .seq
(.reg [⟨some 2, none, .boxp 54 (.tmp 0)⟩,
⟨some 3, none, .boxp 54 (.tmp 1)⟩,
⟨some 4, none, .mv (.val (.int .i64 0))⟩] [] [2, 3])
(.seq
(.reg [⟨some 5, none, .faddr 0 (.tmp 2)⟩,
⟨some 6, none, .ld none (.tmp 5)⟩,
⟨some 7, none, .faddr 0 (.tmp 3)⟩,
⟨some 8, none, .ld none (.tmp 7)⟩,
⟨some 9, none, .call 108 .pure [(.tmp 6), (.tmp 8)]⟩,
⟨some 10, none, .faddr 1 (.tmp 2)⟩,
⟨some 11, none, .ld none (.tmp 10)⟩,
⟨some 12, none, .faddr 1 (.tmp 3)⟩,
⟨some 13, none, .ld none (.tmp 12)⟩,
⟨some 14, none, .call 108 .pure [(.tmp 11), (.tmp 13)]⟩,
⟨some 15, none, .faddr 2 (.tmp 2)⟩,
⟨some 16, none, .ld none (.tmp 15)⟩,
⟨some 17, none, .faddr 2 (.tmp 3)⟩,
⟨some 18, none, .ld none (.tmp 17)⟩,
⟨some 19, none, .call 108 .pure [(.tmp 16), (.tmp 18)]⟩,
⟨some 20, none, .bsl 3 1 [(.int .i64 0)] [(0, 1, (.tmp 9)), (1, 1, (.tmp 14)), (2, 1, (.tmp 19))]⟩,
⟨some 21, none, .call 55 .pure [(.tmp 20)]⟩,
⟨some 4, none, .mv (.tmp 21)⟩] [] [4])
(.ret))⟩
theorem pf56_ok : fnOk Tryz.prog 56 pf56 = true := by kernel_rfl

/-- hinterland/train.fields -/
def pf57 : PFn := ⟨57, 1, [.tmp 2], .seq
(.reg [⟨some 1, none, .boxp 68 (.tmp 0)⟩,
⟨some 2, none, .mv (.val (.bool false))⟩] [] [1])
(.seq
(.reg [⟨some 3, none, .faddr 0 (.tmp 1)⟩,
⟨some 4, none, .ld none (.tmp 3)⟩,
⟨some 5, none, .bin .geq (.tmp 4) (.val (.int .i64 1))⟩,
⟨some 6, none, .mv (.tmp 5)⟩,
⟨some 7, (some (6, true)), .faddr 0 (.tmp 1)⟩,
⟨some 8, (some (6, true)), .ld none (.tmp 7)⟩,
⟨some 9, (some (6, true)), .bin .leq (.tmp 8) (.val (.int .i64 20))⟩,
⟨some 10, none, .pick (.tmp 6) (.tmp 9) (.val (.bool false))⟩,
⟨some 11, none, .mv (.tmp 10)⟩,
⟨some 12, (some (11, true)), .faddr 1 (.tmp 1)⟩,
⟨some 13, (some (11, true)), .ld none (.tmp 12)⟩,
⟨some 14, (some (11, true)), .bin .geq (.tmp 13) (.val (.int .i64 0))⟩,
⟨some 15, none, .pick (.tmp 11) (.tmp 14) (.val (.bool false))⟩,
⟨some 16, none, .mv (.tmp 15)⟩,
⟨some 17, (some (16, true)), .faddr 1 (.tmp 1)⟩,
⟨some 18, (some (16, true)), .ld none (.tmp 17)⟩,
⟨some 19, (some (16, true)), .bin .leq (.tmp 18) (.val (.int .i64 192))⟩,
⟨some 20, none, .pick (.tmp 16) (.tmp 19) (.val (.bool false))⟩,
⟨some 21, none, .mv (.tmp 20)⟩,
⟨some 22, (some (21, true)), .faddr 2 (.tmp 1)⟩,
⟨some 23, (some (21, true)), .ld none (.tmp 22)⟩,
⟨some 24, (some (21, true)), .bin .geq (.tmp 23) (.val (.int .i64 0))⟩,
⟨some 25, none, .pick (.tmp 21) (.tmp 24) (.val (.bool false))⟩,
⟨some 26, none, .mv (.tmp 25)⟩,
⟨some 27, (some (26, true)), .faddr 2 (.tmp 1)⟩,
⟨some 28, (some (26, true)), .ld none (.tmp 27)⟩,
⟨some 29, (some (26, true)), .bin .lss (.tmp 28) (.val (.int .i64 192))⟩,
⟨some 30, none, .pick (.tmp 26) (.tmp 29) (.val (.bool false))⟩,
⟨some 31, none, .mv (.tmp 30)⟩,
⟨some 32, (some (31, true)), .faddr 3 (.tmp 1)⟩,
⟨some 33, (some (31, true)), .ld none (.tmp 32)⟩,
⟨some 34, (some (31, true)), .len (.tmp 33)⟩,
⟨some 35, (some (31, true)), .faddr 0 (.tmp 1)⟩,
⟨some 36, (some (31, true)), .ld none (.tmp 35)⟩,
⟨some 37, (some (31, true)), .bin .leq (.tmp 34) (.tmp 36)⟩,
⟨some 38, none, .pick (.tmp 31) (.tmp 37) (.val (.bool false))⟩,
⟨some 39, none, .mv (.tmp 38)⟩,
⟨some 40, (some (39, true)), .faddr 4 (.tmp 1)⟩,
⟨some 41, (some (39, true)), .ld none (.tmp 40)⟩,
⟨some 42, (some (39, true)), .len (.tmp 41)⟩,
⟨some 43, (some (39, true)), .bin .leq (.tmp 42) (.val (.int .i64 60))⟩,
⟨some 44, none, .pick (.tmp 39) (.tmp 43) (.val (.bool false))⟩,
⟨some 45, none, .mv (.tmp 44)⟩,
⟨some 46, (some (45, true)), .faddr 3 (.tmp 1)⟩,
⟨some 47, (some (45, true)), .ld none (.tmp 46)⟩,
⟨some 48, (some (45, true)), .len (.tmp 47)⟩,
⟨some 49, (some (45, true)), .bin .gtr (.tmp 48) (.val (.int .i64 0))⟩,
⟨some 50, (some (45, true)), .mv (.tmp 49)⟩,
⟨some 51, (some (50, false)), .faddr 4 (.tmp 1)⟩,
⟨some 52, (some (50, false)), .ld none (.tmp 51)⟩,
⟨some 53, (some (50, false)), .len (.tmp 52)⟩,
⟨some 54, (some (50, false)), .bin .eql (.tmp 53) (.val (.int .i64 0))⟩,
⟨some 55, (some (45, true)), .pick (.tmp 50) (.val (.bool true)) (.tmp 54)⟩,
⟨some 56, none, .pick (.tmp 45) (.tmp 55) (.val (.bool false))⟩,
⟨some 2, none, .mv (.tmp 56)⟩] [] [2])
(.ret))⟩
theorem pf57_ok : fnOk Tryz.prog 57 pf57 = true := by kernel_rfl

/-- hinterland/train.lies -/
def pf58 : PFn := ⟨57, 2, [.tmp 4], .seq
(.reg [⟨some 2, none, .boxp 25 (.tmp 0)⟩,
⟨some 3, none, .boxp 54 (.tmp 1)⟩,
⟨some 4, none, .mv (.val (.bool false))⟩] [] [2, 3])
(.seq
(.seq
(.reg [⟨some 7, none, .faddr 0 (.tmp 3)⟩,
⟨some 8, none, .ld none (.tmp 7)⟩,
⟨some 9, none, .bin .lss (.tmp 8) (.val (.int .i64 0))⟩,
⟨some 10, none, .mv (.tmp 9)⟩,
⟨some 11, (some (10, false)), .faddr 0 (.tmp 3)⟩,
⟨some 12, (some (10, false)), .ld none (.tmp 11)⟩,
⟨some 13, (some (10, false)), .faddr 2 (.tmp 2)⟩,
⟨some 14, (some (10, false)), .ld none (.tmp 13)⟩,
⟨some 15, (some (10, false)), .len (.tmp 14)⟩,
⟨some 16, (some (10, false)), .bin .geq (.tmp 12) (.tmp 15)⟩,
⟨some 17, none, .pick (.tmp 10) (.val (.bool true)) (.tmp 16)⟩,
⟨some 18, none, .mv (.tmp 17)⟩,
⟨some 19, (some (18, false)), .faddr 1 (.tmp 3)⟩,
⟨some 20, (some (18, false)), .ld none (.tmp 19)⟩,
⟨some 21, (some (18, false)), .bin .lss (.tmp 20) (.val (.int .i64 0))⟩,
⟨some 22, none, .pick (.tmp 18) (.val (.bool true)) (.tmp 21)⟩,
⟨some 23, none, .mv (.tmp 22)⟩,
⟨some 24, (some (23, false)), .faddr 1 (.tmp 3)⟩,
⟨some 25, (some (23, false)), .ld none (.tmp 24)⟩,
⟨some 26, (some (23, false)), .bin .gtr (.tmp 25) (.val (.int .i64 5))⟩,
⟨some 27, none, .pick (.tmp 23) (.val (.bool true)) (.tmp 26)⟩,
⟨some 28, none, .mv (.tmp 27)⟩,
⟨some 29, (some (28, false)), .faddr 2 (.tmp 2)⟩,
⟨some 30, (some (28, false)), .ld none (.tmp 29)⟩,
⟨some 31, (some (28, false)), .faddr 0 (.tmp 3)⟩,
⟨some 32, (some (28, false)), .ld none (.tmp 31)⟩,
⟨some 33, (some (28, false)), .iaS 1 (.tmp 30) (.tmp 32)⟩,
⟨some 34, (some (28, false)), .ld none (.tmp 33)⟩,
⟨some 35, (some (28, false)), .faddr 1 (.tmp 3)⟩,
⟨some 36, (some (28, false)), .ld none (.tmp 35)⟩,
⟨some 37, (some (28, false)), .bin .shr (.tmp 34) (.tmp 36)⟩,
⟨some 38, (some (28, false)), .bin .and (.tmp 37) (.val (.int .i64 1))⟩,
⟨some 39, (some (28, false)), .bin .eql (.tmp 38) (.val (.int .i64 0))⟩,
⟨some 40, none, .pick (.tmp 28) (.val (.bool true)) (.tmp 39)⟩] [] [3, 40])
(.cond (.tmp 40)
(.seq
(.reg [⟨some 4, none, .mv (.val (.bool false))⟩] [] [4])
(.ret))
(.skip)))
(.seq
(.reg [⟨some 42, none, .faddr 1 (.tmp 3)⟩,
⟨some 43, none, .ld none (.tmp 42)⟩,
⟨some 44, none, .call 102 .pure [(.tmp 43)]⟩,
⟨some 41, none, .mv (.tmp 44)⟩,
⟨some 45, none, .ext 0 (.tmp 41)⟩,
⟨some 46, none, .ext 1 (.tmp 41)⟩,
⟨some 5, none, .mv (.tmp 45)⟩,
⟨some 6, none, .mv (.tmp 46)⟩] [] [3, 5, 6])
(.seq
(.reg [⟨some 47, none, .faddr 2 (.tmp 3)⟩,
⟨some 48, none, .ld none (.tmp 47)⟩,
⟨some 49, none, .mv (.tmp 5)⟩,
⟨some 50, none, .bin .eql (.tmp 48) (.tmp 49)⟩,
⟨some 51, none, .mv (.tmp 50)⟩,
⟨some 52, (some (51, false)), .faddr 2 (.tmp 3)⟩,
⟨some 53, (some (51, false)), .ld none (.tmp 52)⟩,
⟨some 54, (some (51, false)), .mv (.tmp 6)⟩,
⟨some 55, (some (51, false)), .bin .eql (.tmp 53) (.tmp 54)⟩,
⟨some 56, none, .pick (.tmp 51) (.val (.bool true)) (.tmp 55)⟩,
⟨some 4, none, .mv (.tmp 56)⟩] [] [4])
(.ret))))⟩
theorem pf58_ok : fnOk Tryz.prog 58 pf58 = true := by kernel_rfl

/-- hinterland/train.whole -/
def pf59 : PFn := ⟨13, 1, [.tmp 2], .seq
(.reg [⟨some 1, none, .boxp 68 (.tmp 0)⟩,
⟨some 2, none, .mv (.val (.list .nil 3 []))⟩] [] [1])
(.seq
(.reg [⟨some 4, none, .faddr 3 (.tmp 1)⟩,
⟨some 5, none, .ld none (.tmp 4)⟩,
⟨some 6, none, .call 78 .opn [(.tmp 5)]⟩,
⟨some 3, none, .mv (.tmp 6)⟩] [] [1, 3])
(.seq
(.reg [⟨some 7, none, .mv (.tmp 3)⟩,
⟨some 8, none, .call 109 .opn [(.tmp 7)]⟩] [] [1, 3])
(.seq
(.reg [⟨some 9, none, .mv (.tmp 3)⟩,
⟨some 10, none, .faddr 4 (.tmp 1)⟩,
⟨some 11, none, .ld none (.tmp 10)⟩,
⟨some 12, none, .app 54 3 24 (.tmp 9) (.tmp 11)⟩,
⟨some 2, none, .mv (.tmp 12)⟩] [] [2])
(.ret))))⟩
theorem pf59_ok : fnOk Tryz.prog 59 pf59 = true := by kernel_rfl

/-- hinterland/train.fieldOf -/
def pf60 : PFn := ⟨51, 1, [.cell 2 (some 9)], .seq
(.reg [⟨some 1, none, .boxp 30 (.tmp 0)⟩,
⟨some 2, none, .zer 90 (.agg [(.int .i64 0), (.int .i64 0), (.list .nil 1 []), (.list .nil 1 []), (.list .nil 4 []), (.list .nil 6 []), (.list .nil 5 []), .nilmap, .nilmap])⟩] [] [1, 2])
(.seq
(.reg [⟨some 8, none, .ld (some 7) (.tmp 1)⟩,
⟨some 9, none, .mkm (some 3)⟩,
⟨some 10, none, .mkm (some 3)⟩,
⟨some 11, none, .bld [(.int .i64 0), (.int .i64 0), (.list .nil 1 []), (.list .nil 1 []), (.list .nil 4 []), (.list .nil 6 []), (.list .nil 5 []), .nilmap, .nilmap] [(0, 7, (.tmp 8)), (7, 1, (.tmp 9)), (8, 1, (.tmp 10))]⟩,
⟨some 3, none, .zer 90 (.agg [(.int .i64 0), (.int .i64 0), (.list .nil 1 []), (.list .nil 1 []), (.list .nil 4 []), (.list .nil 6 []), (.list .nil 5 []), .nilmap, .nilmap])⟩,
⟨none, none, .st 9 (.tmp 3) (.tmp 11)⟩] [] [1, 2, 3])
(.seq
(.seq
(.reg [⟨some 12, none, .faddr 4 (.tmp 1)⟩,
⟨some 13, none, .ld none (.tmp 12)⟩,
⟨some 14, none, .len (.tmp 13)⟩,
⟨some 15, none, .mv (.val (.int .i64 0))⟩] [] [1, 2, 3, 13, 14, 15])
(.blk 0 (.loop (.trim (.seq
(.reg [⟨some 16, none, .bin .lss (.tmp 15) (.tmp 14)⟩] [] [1, 2, 3, 13, 14, 15, 16])
(.seq
(.cond (.tmp 16)
(.skip)
(.ext 0))
(.seq
(.blk 1 (.seq
(.reg [⟨some 17, none, .iaS 4 (.tmp 13) (.tmp 15)⟩,
⟨some 18, none, .ld (some 4) (.tmp 17)⟩,
⟨some 5, none, .zer 75 (.agg [(.int .i64 0), (.int .i64 0), (.int .i64 0), (.int .i64 0)])⟩,
⟨none, none, .st 4 (.tmp 5) (.tmp 18)⟩] [] [1, 2, 3, 5, 13, 14, 15])
(.reg [⟨some 19, none, .faddr 7 (.tmp 3)⟩,
⟨some 20, none, .ld none (.tmp 19)⟩,
⟨some 21, none, .faddr 0 (.tmp 5)⟩,
⟨some 22, none, .ld none (.tmp 21)⟩,
⟨some 23, none, .faddr 1 (.tmp 5)⟩,
⟨some 24, none, .ld none (.tmp 23)⟩,
⟨some 25, none, .faddr 2 (.tmp 5)⟩,
⟨some 26, none, .ld none (.tmp 25)⟩,
⟨some 27, none, .bld [(.int .i64 0), (.int .i64 0), (.int .i64 0)] [(0, 1, (.tmp 22)), (1, 1, (.tmp 24)), (2, 1, (.tmp 26))]⟩,
⟨some 28, none, .faddr 3 (.tmp 5)⟩,
⟨some 29, none, .ld none (.tmp 28)⟩,
⟨none, none, .mup (some 3) (.tmp 20) (.tmp 27) (.tmp 29)⟩] [] [1, 2, 3, 13, 14, 15])))
(.reg [⟨some 30, none, .bin .add (.tmp 15) (.val (.int .i64 1))⟩,
⟨some 15, none, .mv (.tmp 30)⟩] [] [1, 2, 3, 13, 14, 15]))))))))
(.seq
(.seq
(.reg [⟨some 31, none, .faddr 5 (.tmp 1)⟩,
⟨some 32, none, .ld none (.tmp 31)⟩,
⟨some 33, none, .len (.tmp 32)⟩,
⟨some 34, none, .mv (.val (.int .i64 0))⟩] [] [2, 3, 32, 33, 34])
(.blk 2 (.loop (.trim (.seq
(.reg [⟨some 35, none, .bin .lss (.tmp 34) (.tmp 33)⟩] [] [2, 3, 32, 33, 34, 35])
(.seq
(.cond (.tmp 35)
(.skip)
(.ext 2))
(.seq
(.blk 3 (.seq
(.reg [⟨some 36, none, .iaS 6 (.tmp 32) (.tmp 34)⟩,
⟨some 37, none, .ld (some 6) (.tmp 36)⟩,
⟨some 7, none, .zer 78 (.agg [(.int .i64 0), (.int .i64 0), (.int .i64 0), (.int .i64 0), (.int .i64 0), (.int .i64 0)])⟩,
⟨none, none, .st 6 (.tmp 7) (.tmp 37)⟩] [] [2, 3, 7, 32, 33, 34])
(.reg [⟨some 38, none, .faddr 8 (.tmp 3)⟩,
⟨some 39, none, .ld none (.tmp 38)⟩,
⟨some 40, none, .faddr 0 (.tmp 7)⟩,
⟨some 41, none, .ld (some 3) (.tmp 40)⟩,
⟨some 43, none, .faddr 3 (.tmp 7)⟩,
⟨some 44, none, .ld (some 3) (.tmp 43)⟩,
⟨some 45, none, .bsl 1 3 [(.int .i64 0), (.int .i64 0), (.int .i64 0)] [(0, 3, (.tmp 44))]⟩,
⟨some 46, none, .mpe (some 3) (.list .nil 3 []) (.tmp 39) (.tmp 41)⟩,
⟨some 42, none, .ext 0 (.tmp 46)⟩,
⟨some 47, none, .app 54 3 24 (.tmp 42) (.tmp 45)⟩,
⟨some 48, none, .ext 1 (.tmp 46)⟩,
⟨none, none, .est (some 3) (.tmp 39) (.tmp 48) (.tmp 47)⟩] [] [2, 3, 32, 33, 34])))
(.reg [⟨some 49, none, .bin .add (.tmp 34) (.val (.int .i64 1))⟩,
⟨some 34, none, .mv (.tmp 49)⟩] [] [2, 3, 32, 33, 34]))))))))
(.seq
(.reg [⟨some 50, none, .ld (some 9) (.tmp 3)⟩,
⟨none, none, .st 9 (.tmp 2) (.tmp 50)⟩] [] [2])
(.ret)))))⟩
theorem pf60_ok : fnOk Tryz.prog 60 pf60 = true := by kernel_rfl

/-- (hinterland/train.field).path -/
def pf61 : PFn := ⟨43, 2, [.tmp 4], .seq
(.reg [⟨some 2, none, .boxp 90 (.tmp 0)⟩,
⟨some 4, none, .mv (.val (.bool false))⟩] [] [1, 2])
(.seq
(.reg [⟨some 9, none, .mkm (some 2)⟩,
⟨some 5, none, .mv (.tmp 9)⟩] [] [1, 2, 5])
(.seq
(.seq
(.reg [⟨some 10, none, .mv (.tmp 1)⟩,
⟨some 11, none, .len (.tmp 10)⟩,
⟨some 12, none, .mv (.val (.int .i64 0))⟩] [] [1, 2, 5, 10, 11, 12])
(.blk 0 (.loop (.trim (.seq
(.reg [⟨some 13, none, .bin .lss (.tmp 12) (.tmp 11)⟩] [] [1, 2, 5, 10, 11, 12, 13])
(.seq
(.cond (.tmp 13)
(.skip)
(.ext 0))
(.seq
(.blk 1 (.seq
(.reg [⟨some 14, none, .mv (.tmp 12)⟩,
⟨some 15, none, .iaS 3 (.tmp 10) (.tmp 12)⟩,
⟨some 16, none, .ld (some 3) (.tmp 15)⟩,
⟨some 7, none, .zer 54 (.agg [(.int .i64 0), (.int .i64 0), (.int .i64 0)])⟩,
⟨some 6, none, .mv (.tmp 14)⟩,
⟨none, none, .st 3 (.tmp 7) (.tmp 16)⟩] [] [1, 2, 5, 6, 7, 10, 11, 12])
(.seq
(.reg [⟨some 17, none, .faddr 0 (.tmp 7)⟩,
⟨some 18, none, .ld none (.tmp 17)⟩,
⟨some 19, none, .faddr 1 (.tmp 7)⟩,
⟨some 20, none, .ld none (.tmp 19)⟩,
⟨some 21, none, .bld [(.int .i64 0), (.int .i64 0)] [(0, 1, (.tmp 18)), (1, 1, (.tmp 20))]⟩,
⟨some 8, none, .zer 133 (.agg [(.int .i64 0), (.int .i64 0)])⟩,
⟨none, none, .st 2 (.tmp 8) (.tmp 21)⟩] [] [1, 2, 5, 6, 7, 8, 10, 11, 12])
(.seq
(.seq
(.reg [⟨some 22, none, .mv (.tmp 5)⟩,
⟨some 23, none, .ld (some 2) (.tmp 8)⟩,
⟨some 24, none, .mlk (some 2) (.bool false) false (.tmp 22) (.tmp 23)⟩,
⟨some 25, none, .mv (.tmp 24)⟩,
⟨some 26, (some (25, false)), .mv (.tmp 6)⟩,
⟨some 27, (some (25, false)), .bin .gtr (.tmp 26) (.val (.int .i64 0))⟩,
⟨some 28, (some (25, false)), .mv (.tmp 27)⟩,
⟨some 29, (some (28, true)), .ld (some 9) (.tmp 2)⟩,
⟨some 30, (some (28, true)), .mv (.tmp 1)⟩,
⟨some 31, (some (28, true)), .mv (.tmp 6)⟩,
⟨some 32, (some (28, true)), .bin .sub (.tmp 31) (.val (.int .i64 1))⟩,
⟨some 33, (some (28, true)), .iaS 3 (.tmp 30) (.tmp 32)⟩,
⟨some 34, (some (28, true)), .ld (some 3) (.tmp 33)⟩,
⟨some 35, (some (28, true)), .ld (some 3) (.tmp 7)⟩,
⟨some 36, (some (28, true)), .call 110 .pure [(.tmp 29), (.tmp 34), (.tmp 35)]⟩,
⟨some 37, (some (28, true)), .un .not (.tmp 36)⟩,
⟨some 38, (some (25, false)), .pick (.tmp 28) (.tmp 37) (.val (.bool false))⟩,
⟨some 39, none, .pick (.tmp 25) (.val (.bool true)) (.tmp 38)⟩] [] [1, 2, 5, 8, 10, 11, 12, 39])
(.cond (.tmp 39)
(.seq
(.reg [⟨some 4, none, .mv (.val (.bool false))⟩] [] [4])
(.ret))
(.skip)))
(.reg [⟨some 40, none, .mv (.tmp 5)⟩,
⟨some 41, none, .ld (some 2) (.tmp 8)⟩,
⟨none, none, .mup (some 2) (.tmp 40) (.tmp 41) (.val (.bool true))⟩] [] [1, 2, 5, 10, 11, 12])))))
(.reg [⟨some 42, none, .bin .add (.tmp 12) (.val (.int .i64 1))⟩,
⟨some 12, none, .mv (.tmp 42)⟩] [] [1, 2, 5, 10, 11, 12]))))))))
(.seq
(.reg [⟨some 4, none, .mv (.val (.bool true))⟩] [] [4])
(.ret))))⟩
theorem pf61_ok : fnOk Tryz.prog 61 pf61 = true := by kernel_rfl

/-- (hinterland/train.field).held -/
def pf69 : PFn := ⟨41, 2, [.tmp 4], .seq
(.reg [⟨some 2, none, .boxp 90 (.tmp 0)⟩,
⟨some 4, none, .mv (.val .nilmap)⟩] [] [1, 2])
(.seq
(.reg [⟨some 10, none, .mkm none⟩,
⟨some 5, none, .mv (.tmp 10)⟩] [] [1, 2, 5])
(.seq
(.seq
(.reg [⟨some 11, none, .faddr 0 (.tmp 2)⟩,
⟨some 12, none, .faddr 6 (.tmp 11)⟩,
⟨some 13, none, .ld none (.tmp 12)⟩,
⟨some 14, none, .len (.tmp 13)⟩,
⟨some 15, none, .mv (.val (.int .i64 0))⟩] [] [1, 5, 13, 14, 15])
(.blk 0 (.loop (.trim (.seq
(.reg [⟨some 16, none, .bin .lss (.tmp 15) (.tmp 14)⟩] [] [1, 5, 13, 14, 15, 16])
(.seq
(.cond (.tmp 16)
(.skip)
(.ext 0))
(.seq
(.blk 1 (.seq
(.reg [⟨some 17, none, .mv (.tmp 15)⟩,
⟨some 18, none, .iaS 5 (.tmp 13) (.tmp 15)⟩,
⟨some 19, none, .ld (some 5) (.tmp 18)⟩,
⟨some 7, none, .zer 68 (.agg [(.int .i64 0), (.int .i64 0), (.int .i64 0), (.list .nil 3 []), (.list .nil 3 [])])⟩,
⟨some 6, none, .mv (.tmp 17)⟩,
⟨none, none, .st 5 (.tmp 7) (.tmp 19)⟩] [] [1, 5, 6, 7, 13, 14, 15])
(.seq
(.seq
(.reg [⟨some 20, none, .mv (.tmp 6)⟩,
⟨some 21, none, .mv (.tmp 1)⟩,
⟨some 22, none, .bin .eql (.tmp 20) (.tmp 21)⟩] [] [1, 5, 7, 13, 14, 15, 22])
(.cond (.tmp 22)
(.ext 1)
(.skip)))
(.seq
(.reg [⟨some 23, none, .ld (some 5) (.tmp 7)⟩,
⟨some 24, none, .call 59 .pure [(.tmp 23)]⟩,
⟨some 25, none, .len (.tmp 24)⟩,
⟨some 26, none, .mv (.val (.int .i64 0))⟩] [] [1, 5, 13, 14, 15, 24, 25, 26])
(.blk 2 (.loop (.trim (.seq
(.reg [⟨some 27, none, .bin .lss (.tmp 26) (.tmp 25)⟩] [] [1, 5, 13, 14, 15, 24, 25, 26, 27])
(.seq
(.cond (.tmp 27)
(.skip)
(.ext 2))
(.seq
(.blk 3 (.seq
(.reg [⟨some 28, none, .iaS 3 (.tmp 24) (.tmp 26)⟩,
⟨some 29, none, .ld (some 3) (.tmp 28)⟩,
⟨some 9, none, .zer 54 (.agg [(.int .i64 0), (.int .i64 0), (.int .i64 0)])⟩,
⟨none, none, .st 3 (.tmp 9) (.tmp 29)⟩] [] [1, 5, 9, 13, 14, 15, 24, 25, 26])
(.reg [⟨some 30, none, .mv (.tmp 5)⟩,
⟨some 31, none, .faddr 0 (.tmp 9)⟩,
⟨some 32, none, .ld none (.tmp 31)⟩,
⟨some 33, none, .mlk none (.int .i64 0) false (.tmp 30) (.tmp 32)⟩,
⟨some 34, none, .faddr 1 (.tmp 9)⟩,
⟨some 35, none, .ld none (.tmp 34)⟩,
⟨some 36, none, .bin .shl (.val (.int .i64 1)) (.tmp 35)⟩,
⟨some 37, none, .bin .or (.tmp 33) (.tmp 36)⟩,
⟨none, none, .mup none (.tmp 30) (.tmp 32) (.tmp 37)⟩] [] [1, 5, 13, 14, 15, 24, 25, 26])))
(.reg [⟨some 38, none, .bin .add (.tmp 26) (.val (.int .i64 1))⟩,
⟨some 26, none, .mv (.tmp 38)⟩] [] [1, 5, 13, 14, 15, 24, 25, 26])))))))))))
(.reg [⟨some 39, none, .bin .add (.tmp 15) (.val (.int .i64 1))⟩,
⟨some 15, none, .mv (.tmp 39)⟩] [] [1, 5, 13, 14, 15]))))))))
(.seq
(.reg [⟨some 40, none, .mv (.tmp 5)⟩,
⟨some 4, none, .mv (.tmp 40)⟩] [] [4])
(.ret))))⟩
theorem pf69_ok : fnOk Tryz.prog 69 pf69 = true := by kernel_rfl

/-- slices.ContainsFunc[[]hinterland/api.Spot,hinterland/api.Spot] -/
def pf70 : PFn := ⟨9, 2, [.tmp 4], .seq
(.reg [⟨some 4, none, .mv (.val (.bool false))⟩] [] [0, 1])
(.seq
(.reg [⟨some 5, none, .mv (.tmp 0)⟩,
⟨some 6, none, .mv (.tmp 1)⟩,
⟨some 7, none, .call 116 .pure [(.tmp 5), (.tmp 6)]⟩,
⟨some 8, none, .bin .geq (.tmp 7) (.val (.int .i64 0))⟩,
⟨some 4, none, .mv (.tmp 8)⟩] [] [4])
(.ret))⟩
theorem pf70_ok : fnOk Tryz.prog 70 pf70 = true := by kernel_rfl

/-- hinterland/train.Safe_1 -/
def pf71 : PFn := ⟨7, 2, [.tmp 3], .seq
(.reg [⟨some 2, none, .boxp 54 (.tmp 0)⟩,
⟨some 3, none, .mv (.val (.bool false))⟩] [] [1, 2])
(.seq
(.reg [⟨some 4, none, .ld none (.tmp 1)⟩,
⟨some 5, none, .ld (some 3) (.tmp 2)⟩,
⟨some 6, none, .call 72 .pure [(.tmp 4), (.tmp 5)]⟩,
⟨some 3, none, .mv (.tmp 6)⟩] [] [3])
(.ret))⟩
theorem pf71_ok : fnOk Tryz.prog 71 pf71 = true := by kernel_rfl

/-- hinterland/train.hit -/
def pf72 : PFn := ⟨24, 2, [.tmp 4], .seq
(.reg [⟨some 3, none, .boxp 54 (.tmp 1)⟩,
⟨some 4, none, .mv (.val (.bool false))⟩] [] [0, 3])
(.seq
(.seq
(.reg [⟨some 6, none, .mv (.val (.int .i64 0))⟩] [] [0, 3, 6])
(.blk 0 (.loop (.seq
(.reg [⟨some 7, none, .bin .lss (.tmp 6) (.val (.int .i64 6))⟩] [] [0, 3, 6, 7])
(.seq
(.cond (.tmp 7)
(.skip)
(.ext 0))
(.seq
(.blk 1 (.seq
(.reg [⟨some 8, none, .mv (.tmp 6)⟩,
⟨some 5, none, .mv (.tmp 8)⟩] [] [0, 3, 5, 6])
(.seq
(.reg [⟨some 9, none, .mv (.tmp 0)⟩,
⟨some 10, none, .faddr 0 (.tmp 3)⟩,
⟨some 11, none, .ld none (.tmp 10)⟩,
⟨some 12, none, .mlk none (.int .i64 0) false (.tmp 9) (.tmp 11)⟩,
⟨some 13, none, .mv (.tmp 5)⟩,
⟨some 14, none, .bin .shr (.tmp 12) (.tmp 13)⟩,
⟨some 15, none, .bin .and (.tmp 14) (.val (.int .i64 1))⟩,
⟨some 16, none, .bin .eql (.tmp 15) (.val (.int .i64 1))⟩,
⟨some 17, none, .mv (.tmp 16)⟩,
⟨some 18, (some (17, true)), .mv (.tmp 5)⟩,
⟨some 19, (some (17, true)), .faddr 1 (.tmp 3)⟩,
⟨some 20, (some (17, true)), .ld none (.tmp 19)⟩,
⟨some 21, (some (17, true)), .call 117 .pure [(.tmp 18), (.tmp 20)]⟩,
⟨some 22, none, .pick (.tmp 17) (.tmp 21) (.val (.bool false))⟩] [] [0, 3, 6, 22])
(.cond (.tmp 22)
(.seq
(.reg [⟨some 4, none, .mv (.val (.bool true))⟩] [] [4])
(.ret))
(.skip)))))
(.reg [⟨some 23, none, .bin .add (.tmp 6) (.val (.int .i64 1))⟩,
⟨some 6, none, .mv (.tmp 23)⟩] [] [0, 3, 6])))))))
(.seq
(.reg [⟨some 4, none, .mv (.val (.bool false))⟩] [] [4])
(.ret)))⟩
theorem pf72_ok : fnOk Tryz.prog 72 pf72 = true := by kernel_rfl

/-- hinterland/train.known -/
def pf75 : PFn := ⟨20, 2, [.tmp 4], .seq
(.reg [⟨some 2, none, .boxp 30 (.tmp 0)⟩,
⟨some 4, none, .mv (.val (.int .i64 0))⟩] [] [1, 2])
(.seq
(.seq
(.reg [⟨some 6, none, .ld (some 7) (.tmp 2)⟩,
⟨some 7, none, .call 21 .pure [(.tmp 6)]⟩,
⟨some 5, none, .mv (.tmp 7)⟩] [] [1, 2, 5])
(.seq
(.reg [⟨some 8, none, .mv (.tmp 5)⟩,
⟨some 9, none, .bin .neq (.tmp 8) (.val (.int .i64 0))⟩] [] [1, 2, 5, 9])
(.cond (.tmp 9)
(.seq
(.reg [⟨some 10, none, .mv (.tmp 5)⟩,
⟨some 4, none, .mv (.tmp 10)⟩] [] [4])
(.ret))
(.skip))))
(.seq
(.seq
(.reg [⟨some 11, none, .mv (.tmp 1)⟩,
⟨some 12, none, .bin .lss (.tmp 11) (.val (.int .i64 0))⟩,
⟨some 13, none, .mv (.tmp 12)⟩,
⟨some 14, (some (13, false)), .mv (.tmp 1)⟩,
⟨some 15, (some (13, false)), .faddr 6 (.tmp 2)⟩,
⟨some 16, (some (13, false)), .ld none (.tmp 15)⟩,
⟨some 17, (some (13, false)), .len (.tmp 16)⟩,
⟨some 18, (some (13, false)), .bin .geq (.tmp 14) (.tmp 17)⟩,
⟨some 19, none, .pick (.tmp 13) (.val (.bool true)) (.tmp 18)⟩] [] [19])
(.cond (.tmp 19)
(.seq
(.reg [⟨some 4, none, .mv (.val (.int .i64 2))⟩] [] [4])
(.ret))
(.skip)))
(.seq
(.reg [⟨some 4, none, .mv (.val (.int .i64 0))⟩] [] [4])
(.ret))))⟩
theorem pf75_ok : fnOk Tryz.prog 75 pf75 = true := by kernel_rfl

/-- hinterland/train.clone -/
def pf76 : PFn := ⟨56, 1, [.cell 2 (some 7)], .seq
(.reg [⟨some 1, none, .boxm 30 (.tmp 0)⟩,
⟨some 2, none, .zer 30 (.agg [(.int .i64 0), (.int .i64 0), (.list .nil 1 []), (.list .nil 1 []), (.list .nil 4 []), (.list .nil 6 []), (.list .nil 5 [])])⟩] [] [1, 2])
(.seq
(.reg [⟨some 6, none, .faddr 0 (.tmp 1)⟩,
⟨some 7, none, .ld (some 4) (.tmp 6)⟩,
⟨some 3, none, .zer 25 (.agg [(.int .i64 0), (.int .i64 0), (.list .nil 1 []), (.list .nil 1 [])])⟩,
⟨none, none, .st 4 (.tmp 3) (.tmp 7)⟩] [] [1, 2, 3])
(.seq
(.reg [⟨some 8, none, .faddr 2 (.tmp 3)⟩,
⟨some 9, none, .ld none (.tmp 8)⟩,
⟨some 10, none, .call 119 .pure [(.tmp 9)]⟩,
⟨some 11, none, .faddr 3 (.tmp 3)⟩,
⟨some 12, none, .ld none (.tmp 11)⟩,
⟨some 13, none, .call 120 .pure [(.tmp 12)]⟩,
⟨some 14, none, .faddr 0 (.tmp 1)⟩,
⟨some 15, none, .faddr 2 (.tmp 14)⟩,
⟨none, none, .st 1 (.tmp 15) (.tmp 10)⟩,
⟨some 16, none, .faddr 0 (.tmp 1)⟩,
⟨some 17, none, .faddr 3 (.tmp 16)⟩,
⟨none, none, .st 1 (.tmp 17) (.tmp 13)⟩] [] [1, 2])
(.seq
(.reg [⟨some 18, none, .faddr 4 (.tmp 1)⟩,
⟨some 19, none, .ld none (.tmp 18)⟩,
⟨some 20, none, .call 121 .pure [(.tmp 19)]⟩,
⟨some 21, none, .faddr 5 (.tmp 1)⟩,
⟨some 22, none, .ld none (.tmp 21)⟩,
⟨some 23, none, .call 122 .pure [(.tmp 22)]⟩,
⟨some 24, none, .faddr 6 (.tmp 1)⟩,
⟨some 25, none, .ld none (.tmp 24)⟩,
⟨some 26, none, .call 123 .opn [(.tmp 25)]⟩,
⟨some 27, none, .faddr 4 (.tmp 1)⟩,
⟨none, none, .st 1 (.tmp 27) (.tmp 20)⟩,
⟨some 28, none, .faddr 5 (.tmp 1)⟩,
⟨none, none, .st 1 (.tmp 28) (.tmp 23)⟩,
⟨some 29, none, .faddr 6 (.tmp 1)⟩,
⟨none, none, .st 1 (.tmp 29) (.tmp 26)⟩] [] [1, 2])
(.seq
(.seq
(.reg [⟨some 30, none, .faddr 6 (.tmp 1)⟩,
⟨some 31, none, .ld none (.tmp 30)⟩,
⟨some 32, none, .len (.tmp 31)⟩,
⟨some 33, none, .mv (.val (.int .i64 0))⟩] [] [1, 2, 31, 32, 33])
(.blk 0 (.loop (.trim (.seq
(.reg [⟨some 34, none, .bin .lss (.tmp 33) (.tmp 32)⟩] [] [1, 2, 31, 32, 33, 34])
(.seq
(.cond (.tmp 34)
(.skip)
(.ext 0))
(.seq
(.blk 1 (.seq
(.reg [⟨some 35, none, .mv (.tmp 33)⟩,
⟨some 36, none, .iaS 5 (.tmp 31) (.tmp 33)⟩,
⟨some 37, none, .ld (some 5) (.tmp 36)⟩,
⟨some 5, none, .zer 68 (.agg [(.int .i64 0), (.int .i64 0), (.int .i64 0), (.list .nil 3 []), (.list .nil 3 [])])⟩,
⟨some 4, none, .mv (.tmp 35)⟩,
⟨none, none, .st 5 (.tmp 5) (.tmp 37)⟩] [] [1, 2, 4, 5, 31, 32, 33])
(.reg [⟨some 38, none, .faddr 6 (.tmp 1)⟩,
⟨some 39, none, .ld none (.tmp 38)⟩,
⟨some 40, none, .mv (.tmp 4)⟩,
⟨some 41, none, .faddr 6 (.tmp 1)⟩,
⟨some 42, none, .ld none (.tmp 41)⟩,
⟨some 43, none, .mv (.tmp 4)⟩,
⟨some 44, none, .faddr 3 (.tmp 5)⟩,
⟨some 45, none, .ld none (.tmp 44)⟩,
⟨some 46, none, .call 78 .pure [(.tmp 45)]⟩,
⟨some 47, none, .faddr 4 (.tmp 5)⟩,
⟨some 48, none, .ld none (.tmp 47)⟩,
⟨some 49, none, .call 78 .pure [(.tmp 48)]⟩,
⟨some 50, none, .iaS 5 (.tmp 39) (.tmp 40)⟩,
⟨some 51, none, .faddr 3 (.tmp 50)⟩,
⟨none, none, .st 1 (.tmp 51) (.tmp 46)⟩,
⟨some 52, none, .iaS 5 (.tmp 42) (.tmp 43)⟩,
⟨some 53, none, .faddr 4 (.tmp 52)⟩,
⟨none, none, .st 1 (.tmp 53) (.tmp 49)⟩] [(4, 14), (4, 15)] [1, 2, 31, 32, 33])))
(.reg [⟨some 54, none, .bin .add (.tmp 33) (.val (.int .i64 1))⟩,
⟨some 33, none, .mv (.tmp 54)⟩] [] [1, 2, 31, 32, 33]))))))))
(.seq
(.reg [⟨some 55, none, .ld (some 7) (.tmp 1)⟩,
⟨none, none, .st 7 (.tmp 2) (.tmp 55)⟩] [] [2])
(.ret))))))⟩
theorem pf76_ok : fnOk Tryz.prog 76 pf76 = true := by kernel_rfl

/-- hinterland/train.move -/
def pf77 : PFn := ⟨84, 3, [.cell 6 (some 3), .tmp 7, .tmp 8], .seq
(.reg [⟨some 3, none, .boxp 30 (.tmp 0)⟩,
⟨some 6, none, .zer 54 (.agg [(.int .i64 0), (.int .i64 0), (.int .i64 0)])⟩,
⟨some 7, none, .mv (.val (.list .nil 3 []))⟩,
⟨some 8, none, .mv (.val (.int .i64 0))⟩] [] [1, 2, 3, 6])
(.seq
(.reg [⟨some 16, none, .faddr 6 (.tmp 3)⟩,
⟨some 17, none, .ld none (.tmp 16)⟩,
⟨some 18, none, .mv (.tmp 1)⟩,
⟨some 19, none, .iaS 5 (.tmp 17) (.tmp 18)⟩,
⟨some 20, none, .ld (some 5) (.tmp 19)⟩,
⟨some 9, none, .zer 68 (.agg [(.int .i64 0), (.int .i64 0), (.int .i64 0), (.list .nil 3 []), (.list .nil 3 [])])⟩,
⟨none, none, .st 5 (.tmp 9) (.tmp 20)⟩] [] [1, 2, 3, 6, 9])
(.seq
(.seq
(.reg [⟨some 21, none, .faddr 4 (.tmp 9)⟩,
⟨some 22, none, .ld none (.tmp 21)⟩,
⟨some 23, none, .len (.tmp 22)⟩,
⟨some 24, none, .bin .gtr (.tmp 23) (.val (.int .i64 0))⟩] [] [1, 2, 3, 6, 9, 24])
(.cond (.tmp 24)
(.seq
(.seq
(.reg [⟨some 25, none, .faddr 4 (.tmp 9)⟩,
⟨some 26, none, .ld none (.tmp 25)⟩,
⟨some 27, none, .iaS 3 (.tmp 26) (.val (.int .i64 0))⟩,
⟨some 28, none, .ld (some 3) (.tmp 27)⟩,
⟨some 10, none, .zer 54 (.agg [(.int .i64 0), (.int .i64 0), (.int .i64 0)])⟩,
⟨none, none, .st 3 (.tmp 10) (.tmp 28)⟩] [] [6, 9, 10])
(.seq
(.reg [⟨some 29, none, .ld (some 5) (.tmp 9)⟩,
⟨some 30, none, .ld (some 3) (.tmp 10)⟩,
⟨some 31, none, .faddr 4 (.tmp 9)⟩,
⟨some 32, none, .ld none (.tmp 31)⟩,
⟨some 33, none, .slc 3 (.tmp 32) (some (.val (.int .i64 1))) none none⟩,
⟨some 34, none, .call 124 .pure [(.tmp 29), (.tmp 30), (.tmp 33)]⟩,
⟨some 35, none, .un .not (.tmp 34)⟩] [] [6, 9, 10, 35])
(.cond (.tmp 35)
(.seq
(.reg [⟨some 36, none, .ld (some 3) (.tmp 10)⟩,
⟨some 37, none, .faddr 4 (.tmp 9)⟩,
⟨some 38, none, .ld none (.tmp 37)⟩,
⟨some 39, none, .slc 3 (.tmp 38) (some (.val (.int .i64 1))) none none⟩,
⟨none, none, .st 3 (.tmp 6) (.tmp 36)⟩,
⟨some 7, none, .mv (.tmp 39)⟩,
⟨some 8, none, .mv (.val (.int .i64 0))⟩] [(2, 4), (2, 5)] [6, 7, 8])
(.ret))
(.skip))))
(.seq
(.reg [⟨some 40, none, .bld [(.int .i64 0), (.int .i64 0), (.int .i64 0)] []⟩,
⟨none, none, .st 3 (.tmp 6) (.tmp 40)⟩,
⟨some 7, none, .mv (.val (.list .nil 3 []))⟩,
⟨some 8, none, .mv (.val (.int .i64 1))⟩] [] [6, 7, 8])
(.ret)))
(.skip)))
(.seq
(.reg [⟨some 41, none, .ld (some 7) (.tmp 3)⟩,
⟨some 42, none, .call 60 .pure [(.tmp 41)]⟩,
⟨some 43, none, .mv (.tmp 1)⟩,
⟨some 44, none, .faddr 3 (.tmp 9)⟩,
⟨some 45, none, .ld none (.tmp 44)⟩,
⟨some 46, none, .iaS 3 (.tmp 45) (.val (.int .i64 0))⟩,
⟨some 47, none, .ld (some 3) (.tmp 46)⟩,
⟨some 48, none, .mv (.tmp 2)⟩,
⟨some 49, none, .call 85 .pure [(.tmp 42), (.tmp 43), (.tmp 47), (.tmp 48)]⟩,
⟨some 11, none, .zer 117 (.agg [(.int .i64 0), (.int .i64 0), (.list .nil 1 []), (.list .nil 1 []), (.list .nil 4 []), (.list .nil 6 []), (.list .nil 5 []), .nilmap, .nilmap, .nilmap, .nilmap, .nilmap])⟩,
⟨none, none, .st 12 (.tmp 11) (.tmp 49)⟩] [(0, 9), (0, 10), (1, 9), (1, 10), (4, 9), (4, 10), (6, 9), (6, 10), (8, 9), (8, 10)] [1, 6, 9, 11])
(.seq
(.reg [⟨some 51, none, .ld (some 12) (.tmp 11)⟩,
⟨some 52, none, .faddr 3 (.tmp 9)⟩,
⟨some 53, none, .ld none (.tmp 52)⟩,
⟨some 54, none, .iaS 3 (.tmp 53) (.val (.int .i64 0))⟩,
⟨some 55, none, .ld (some 3) (.tmp 54)⟩,
⟨some 56, none, .call 86 .pure [(.tmp 51), (.tmp 55)]⟩,
⟨some 50, none, .mv (.tmp 56)⟩,
⟨some 57, none, .ext 0 (.tmp 50)⟩,
⟨some 58, none, .ext 1 (.tmp 50)⟩,
⟨some 12, none, .zer 54 (.agg [(.int .i64 0), (.int .i64 0), (.int .i64 0)])⟩,
⟨none, none, .st 3 (.tmp 12) (.tmp 57)⟩,
⟨some 13, none, .mv (.tmp 58)⟩] [(0, 9), (0, 10), (2, 9), (2, 10), (4, 9), (4, 10), (5, 9), (5, 10)] [1, 6, 9, 11, 12, 13])
(.seq
(.seq
(.reg [⟨some 59, none, .mv (.tmp 13)⟩,
⟨some 60, none, .un .not (.tmp 59)⟩] [] [1, 6, 9, 11, 12, 60])
(.cond (.tmp 60)
(.seq
(.reg [⟨some 61, none, .bld [(.int .i64 0), (.int .i64 0), (.int .i64 0)] []⟩,
⟨none, none, .st 3 (.tmp 6) (.tmp 61)⟩,
⟨some 7, none, .mv (.val (.list .nil 3 []))⟩,
⟨some 8, none, .mv (.val (.int .i64 2))⟩] [] [6, 7, 8])
(.ret))
(.skip)))
(.seq
(.reg [⟨some 63, none, .ld (some 12) (.tmp 11)⟩,
⟨some 64, none, .mv (.tmp 1)⟩,
⟨some 65, none, .ld (some 3) (.tmp 12)⟩,
⟨some 66, none, .call 125 .pure [(.tmp 63), (.tmp 64), (.tmp 65)]⟩,
⟨some 62, none, .mv (.tmp 66)⟩,
⟨some 67, none, .ext 0 (.tmp 62)⟩,
⟨some 68, none, .ext 1 (.tmp 62)⟩,
⟨some 14, none, .mv (.tmp 67)⟩,
⟨some 15, none, .mv (.tmp 68)⟩] [] [6, 9, 12, 14, 15])
(.seq
(.seq
(.reg [⟨some 69, none, .mv (.tmp 15)⟩,
⟨some 70, none, .un .not (.tmp 69)⟩,
⟨some 71, none, .mv (.tmp 70)⟩,
⟨some 72, (some (71, false)), .ld (some 5) (.tmp 9)⟩,
⟨some 73, (some (71, false)), .ld (some 3) (.tmp 12)⟩,
⟨some 74, (some (71, false)), .call 124 .pure [(.tmp 72), (.tmp 73), (.val (.list .nil 3 []))]⟩,
⟨some 75, none, .pick (.tmp 71) (.val (.bool true)) (.tmp 74)⟩] [] [6, 12, 14, 75])
(.cond (.tmp 75)
(.seq
(.reg [⟨some 76, none, .bld [(.int .i64 0), (.int .i64 0), (.int .i64 0)] []⟩,
⟨none, none, .st 3 (.tmp 6) (.tmp 76)⟩,
⟨some 7, none, .mv (.val (.list .nil 3 []))⟩,
⟨some 8, none, .mv (.val (.int .i64 1))⟩] [] [6, 7, 8])
(.ret))
(.skip)))
(.seq
(.seq
(.reg [⟨some 77, none, .mv (.tmp 14)⟩,
⟨some 78, none, .len (.tmp 77)⟩,
⟨some 79, none, .bin .gtr (.tmp 78) (.val (.int .i64 0))⟩] [] [6, 12, 14, 79])
(.cond (.tmp 79)
(.reg [⟨some 80, none, .mv (.tmp 14)⟩,
⟨some 81, none, .slc 3 (.tmp 80) (some (.val (.int .i64 1))) none none⟩,
⟨some 14, none, .mv (.tmp 81)⟩] [] [6, 12, 14])
(.skip)))
(.seq
(.reg [⟨some 82, none, .ld (some 3) (.tmp 12)⟩,
⟨some 83, none, .mv (.tmp 14)⟩,
⟨none, none, .st 3 (.tmp 6) (.tmp 82)⟩,
⟨some 7, none, .mv (.tmp 83)⟩,
⟨some 8, none, .mv (.val (.int .i64 0))⟩] [] [6, 7, 8])
(.ret))))))))))⟩
theorem pf77_ok : fnOk Tryz.prog 77 pf77 = true := by kernel_rfl

/-- slices.Clone[[]hinterland/api.Spot,hinterland/api.Spot] -/
def pf78 : PFn := ⟨8, 1, [.tmp 2], .seq
(.reg [⟨some 2, none, .mv (.val (.list .nil 3 []))⟩] [] [0])
(.seq
(.seq
(.reg [⟨some 3, none, .mv (.tmp 0)⟩,
⟨some 4, none, .eqn false (.tmp 3) (.val (.list .nil 1 []))⟩] [] [0, 4])
(.cond (.tmp 4)
(.seq
(.reg [⟨some 2, none, .mv (.val (.list .nil 3 []))⟩] [] [2])
(.ret))
(.skip)))
(.seq
(.reg [⟨some 5, none, .bsl 0 3 [(.int .i64 0), (.int .i64 0), (.int .i64 0)] []⟩,
⟨some 6, none, .mv (.tmp 0)⟩,
⟨some 7, none, .app 54 3 24 (.tmp 5) (.tmp 6)⟩,
⟨some 2, none, .mv (.tmp 7)⟩] [] [2])
(.ret)))⟩
theorem pf78_ok : fnOk Tryz.prog 78 pf78 = true := by kernel_rfl

/-- slices.Contains[[]int,int] -/
def pf79 : PFn := ⟨9, 2, [.tmp 4], .seq
(.reg [⟨some 4, none, .mv (.val (.bool false))⟩] [] [0, 1])
(.seq
(.reg [⟨some 5, none, .mv (.tmp 0)⟩,
⟨some 6, none, .mv (.tmp 1)⟩,
⟨some 7, none, .call 126 .pure [(.tmp 5), (.tmp 6)]⟩,
⟨some 8, none, .bin .geq (.tmp 7) (.val (.int .i64 0))⟩,
⟨some 4, none, .mv (.tmp 8)⟩] [] [4])
(.ret))⟩
theorem pf79_ok : fnOk Tryz.prog 79 pf79 = true := by kernel_rfl

/-- hinterland/train.last -/
def pf84 : PFn := ⟨19, 1, [.cell 2 (some 3)], .seq
(.reg [⟨some 1, none, .boxp 68 (.tmp 0)⟩,
⟨some 2, none, .zer 54 (.agg [(.int .i64 0), (.int .i64 0), (.int .i64 0)])⟩] [] [1, 2])
(.seq
(.seq
(.reg [⟨some 4, none, .faddr 4 (.tmp 1)⟩,
⟨some 5, none, .ld none (.tmp 4)⟩,
⟨some 6, none, .len (.tmp 5)⟩,
⟨some 3, none, .mv (.tmp 6)⟩] [] [1, 2, 3])
(.seq
(.reg [⟨some 7, none, .mv (.tmp 3)⟩,
⟨some 8, none, .bin .gtr (.tmp 7) (.val (.int .i64 0))⟩] [] [1, 2, 3, 8])
(.cond (.tmp 8)
(.seq
(.reg [⟨some 9, none, .faddr 4 (.tmp 1)⟩,
⟨some 10, none, .ld none (.tmp 9)⟩,
⟨some 11, none, .mv (.tmp 3)⟩,
⟨some 12, none, .bin .sub (.tmp 11) (.val (.int .i64 1))⟩,
⟨some 13, none, .iaS 3 (.tmp 10) (.tmp 12)⟩,
⟨some 14, none, .ld (some 3) (.tmp 13)⟩,
⟨none, none, .st 3 (.tmp 2) (.tmp 14)⟩] [] [2])
(.ret))
(.skip))))
(.seq
(.reg [⟨some 15, none, .faddr 3 (.tmp 1)⟩,
⟨some 16, none, .ld none (.tmp 15)⟩,
⟨some 17, none, .iaS 3 (.tmp 16) (.val (.int .i64 0))⟩,
⟨some 18, none, .ld (some 3) (.tmp 17)⟩,
⟨none, none, .st 3 (.tmp 2) (.tmp 18)⟩] [] [2])
(.ret)))⟩
theorem pf84_ok : fnOk Tryz.prog 84 pf84 = true := by kernel_rfl

/-- (hinterland/train.field).searchOf -/
def pf85 : PFn := ⟨102, 4, [.cell 8 (some 12)], .seq
(.reg [⟨some 4, none, .boxp 90 (.tmp 0)⟩,
⟨some 6, none, .boxp 54 (.tmp 2)⟩,
⟨some 8, none, .zer 117 (.agg [(.int .i64 0), (.int .i64 0), (.list .nil 1 []), (.list .nil 1 []), (.list .nil 4 []), (.list .nil 6 []), (.list .nil 5 []), .nilmap, .nilmap, .nilmap, .nilmap, .nilmap])⟩] [] [1, 3, 4, 6, 8])
(.seq
(.reg [⟨some 19, none, .ld (some 9) (.tmp 4)⟩,
⟨some 20, none, .ld (some 9) (.tmp 4)⟩,
⟨some 21, none, .mv (.tmp 1)⟩,
⟨some 22, none, .call 69 .pure [(.tmp 20), (.tmp 21)]⟩,
⟨some 23, none, .mkm none⟩,
⟨some 24, none, .mkm (some 3)⟩,
⟨some 25, none, .bld [(.int .i64 0), (.int .i64 0), (.list .nil 1 []), (.list .nil 1 []), (.list .nil 4 []), (.list .nil 6 []), (.list .nil 5 []), .nilmap, .nilmap, .nilmap, .nilmap, .nilmap] [(0, 9, (.tmp 19)), (9, 1, (.tmp 22)), (10, 1, (.tmp 23)), (11, 1, (.tmp 24))]⟩,
⟨some 9, none, .zer 117 (.agg [(.int .i64 0), (.int .i64 0), (.list .nil 1 []), (.list .nil 1 []), (.list .nil 4 []), (.list .nil 6 []), (.list .nil 5 []), .nilmap, .nilmap, .nilmap, .nilmap, .nilmap])⟩,
⟨none, none, .st 12 (.tmp 9) (.tmp 25)⟩] [(0, 0), (1, 0), (3, 0)] [3, 4, 6, 8, 9])
(.seq
(.seq
(.reg [⟨some 26, none, .mv (.tmp 3)⟩,
⟨some 27, none, .len (.tmp 26)⟩,
⟨some 28, none, .mv (.val (.int .i64 0))⟩] [] [4, 6, 8, 9, 26, 27, 28])
(.blk 0 (.loop (.seq
(.reg [⟨some 29, none, .bin .lss (.tmp 28) (.tmp 27)⟩] [] [4, 6, 8, 9, 26, 27, 28, 29])
(.seq
(.cond (.tmp 29)
(.skip)
(.ext 0))
(.seq
(.blk 1 (.seq
(.reg [⟨some 30, none, .iaS 1 (.tmp 26) (.tmp 28)⟩,
⟨some 31, none, .ld none (.tmp 30)⟩,
⟨some 11, none, .mv (.tmp 31)⟩] [] [4, 6, 8, 9, 11, 26, 27, 28])
(.reg [⟨some 32, none, .faddr 10 (.tmp 9)⟩,
⟨some 33, none, .ld none (.tmp 32)⟩,
⟨some 34, none, .mv (.tmp 11)⟩,
⟨none, none, .mup none (.tmp 33) (.tmp 34) (.val (.bool true))⟩] [] [4, 6, 8, 9, 26, 27, 28])))
(.reg [⟨some 35, none, .bin .add (.tmp 28) (.val (.int .i64 1))⟩,
⟨some 28, none, .mv (.tmp 35)⟩] [] [4, 6, 8, 9, 26, 27, 28])))))))
(.seq
(.reg [⟨some 36, none, .mkm (some 3)⟩,
⟨some 12, none, .mv (.tmp 36)⟩] [] [4, 6, 8, 9, 12])
(.seq
(.reg [⟨some 37, none, .mkm (some 3)⟩,
⟨some 38, none, .ld (some 3) (.tmp 6)⟩,
⟨none, none, .mup (some 3) (.tmp 37) (.tmp 38) (.val (.bool true))⟩,
⟨some 39, none, .mv (.tmp 37)⟩,
⟨some 13, none, .mv (.tmp 39)⟩] [] [4, 6, 8, 9, 12, 13])
(.seq
(.reg [⟨some 14, none, .mv (.val (.list .nil 3 []))⟩] [] [4, 6, 8, 9, 12, 13, 14])
(.seq
(.seq
(.reg [⟨some 40, none, .ld (some 3) (.tmp 6)⟩,
⟨some 41, none, .bsl 1 3 [(.int .i64 0), (.int .i64 0), (.int .i64 0)] [(0, 3, (.tmp 40))]⟩,
⟨some 15, none, .mv (.tmp 41)⟩] [] [4, 8, 9, 12, 13, 14, 15])
(.blk 2 (.loop (.seq
(.seq
(.reg [⟨some 42, none, .mv (.tmp 15)⟩,
⟨some 43, none, .len (.tmp 42)⟩,
⟨some 44, none, .bin .gtr (.tmp 43) (.val (.int .i64 0))⟩] [] [4, 8, 9, 12, 13, 14, 15, 44])
(.cond (.tmp 44)
(.skip)
(.ext 2)))
(.seq
(.blk 3 (.seq
(.reg [⟨some 47, none, .ld (some 9) (.tmp 4)⟩,
⟨some 48, none, .mv (.tmp 15)⟩,
⟨some 49, none, .iaS 3 (.tmp 48) (.val (.int .i64 0))⟩,
⟨some 50, none, .ld (some 3) (.tmp 49)⟩,
⟨some 51, none, .call 91 .pure [(.tmp 47), (.tmp 50)]⟩,
⟨some 52, none, .len (.tmp 51)⟩,
⟨some 53, none, .mv (.val (.int .i64 0))⟩] [] [4, 8, 9, 12, 13, 14, 15, 51, 52, 53])
(.blk 4 (.loop (.seq
(.reg [⟨some 54, none, .bin .lss (.tmp 53) (.tmp 52)⟩] [] [4, 8, 9, 12, 13, 14, 15, 51, 52, 53, 54])
(.seq
(.cond (.tmp 54)
(.skip)
(.ext 4))
(.seq
(.blk 5 (.seq
(.reg [⟨some 55, none, .iaS 3 (.tmp 51) (.tmp 53)⟩,
⟨some 56, none, .ld (some 3) (.tmp 55)⟩,
⟨some 17, none, .zer 54 (.agg [(.int .i64 0), (.int .i64 0), (.int .i64 0)])⟩,
⟨none, none, .st 3 (.tmp 17) (.tmp 56)⟩] [] [4, 8, 9, 12, 13, 14, 15, 17, 51, 52, 53])
(.seq
(.reg [⟨some 57, none, .mv (.tmp 12)⟩,
⟨some 58, none, .ld (some 3) (.tmp 17)⟩,
⟨some 60, none, .mv (.tmp 15)⟩,
⟨some 61, none, .iaS 3 (.tmp 60) (.val (.int .i64 0))⟩,
⟨some 62, none, .ld (some 3) (.tmp 61)⟩,
⟨some 63, none, .bsl 1 3 [(.int .i64 0), (.int .i64 0), (.int .i64 0)] [(0, 3, (.tmp 62))]⟩,
⟨some 64, none, .mpe (some 3) (.list .nil 3 []) (.tmp 57) (.tmp 58)⟩,
⟨some 59, none, .ext 0 (.tmp 64)⟩,
⟨some 65, none, .app 54 3 24 (.tmp 59) (.tmp 63)⟩,
⟨some 66, none, .ext 1 (.tmp 64)⟩,
⟨none, none, .est (some 3) (.tmp 57) (.tmp 66) (.tmp 65)⟩] [] [4, 8, 9, 12, 13, 14, 15, 17, 51, 52, 53])
(.seq
(.reg [⟨some 67, none, .mv (.tmp 13)⟩,
⟨some 68, none, .ld (some 3) (.tmp 17)⟩,
⟨some 69, none, .mlk (some 3) (.bool false) false (.tmp 67) (.tmp 68)⟩,
⟨some 70, none, .un .not (.tmp 69)⟩] [] [4, 8, 9, 12, 13, 14, 15, 17, 51, 52, 53, 70])
(.cond (.tmp 70)
(.seq
(.reg [⟨some 71, none, .mv (.tmp 13)⟩,
⟨some 72, none, .ld (some 3) (.tmp 17)⟩,
⟨none, none, .mup (some 3) (.tmp 71) (.tmp 72) (.val (.bool true))⟩] [] [4, 8, 9, 12, 13, 14, 15, 17, 51, 52, 53])
(.reg [⟨some 73, none, .mv (.tmp 15)⟩,
⟨some 74, none, .ld (some 3) (.tmp 17)⟩,
⟨some 75, none, .bsl 1 3 [(.int .i64 0), (.int .i64 0), (.int .i64 0)] [(0, 3, (.tmp 74))]⟩,
⟨some 76, none, .app 54 3 24 (.tmp 73) (.tmp 75)⟩,
⟨some 15, none, .mv (.tmp 76)⟩] [] [4, 8, 9, 12, 13, 14, 15, 51, 52, 53]))
(.skip))))))
(.reg [⟨some 77, none, .bin .add (.tmp 53) (.val (.int .i64 1))⟩,
⟨some 53, none, .mv (.tmp 77)⟩] [] [4, 8, 9, 12, 13, 14, 15, 51, 52, 53]))))))))
(.reg [⟨some 45, none, .mv (.tmp 15)⟩,
⟨some 46, none, .slc 3 (.tmp 45) (some (.val (.int .i64 1))) none none⟩,
⟨some 15, none, .mv (.tmp 46)⟩] [] [4, 8, 9, 12, 13, 14, 15]))))))
(.mrng ⟨[⟨some 78, none, .mv (.tmp 13)⟩], (.tmp 78), 79, 80, 81, 82, [⟨some 83, none, .ext 0 (.tmp 82)⟩,
⟨some 18, none, .zer 54 (.agg [(.int .i64 0), (.int .i64 0), (.int .i64 0)])⟩,
⟨none, none, .st 3 (.tmp 18) (.tmp 83)⟩], [8, 9, 12, 14, 18, 79], 6, 7, [8]⟩
(.seq
(.reg [⟨some 84, none, .faddr 10 (.tmp 9)⟩,
⟨some 85, none, .ld none (.tmp 84)⟩,
⟨some 86, none, .faddr 0 (.tmp 18)⟩,
⟨some 87, none, .ld none (.tmp 86)⟩,
⟨some 88, none, .mlk none (.bool false) false (.tmp 85) (.tmp 87)⟩] [] [8, 9, 12, 14, 18, 79, 88])
(.cond (.tmp 88)
(.seq
(.reg [⟨some 89, none, .faddr 11 (.tmp 9)⟩,
⟨some 90, none, .ld none (.tmp 89)⟩,
⟨some 91, none, .ld (some 3) (.tmp 18)⟩,
⟨some 92, none, .bld [(.int .i64 0), (.int .i64 0)] []⟩,
⟨none, none, .mup (some 3) (.tmp 90) (.tmp 91) (.tmp 92)⟩] [] [8, 9, 12, 14, 18, 79])
(.reg [⟨some 93, none, .mv (.tmp 14)⟩,
⟨some 94, none, .ld (some 3) (.tmp 18)⟩,
⟨some 95, none, .bsl 1 3 [(.int .i64 0), (.int .i64 0), (.int .i64 0)] [(0, 3, (.tmp 94))]⟩,
⟨some 96, none, .app 54 3 24 (.tmp 93) (.tmp 95)⟩,
⟨some 14, none, .mv (.tmp 96)⟩] [] [8, 9, 12, 14, 79]))
(.skip)))
(.seq
(.reg [⟨some 97, none, .ld (some 12) (.tmp 9)⟩,
⟨some 98, none, .mv (.tmp 12)⟩,
⟨some 99, none, .mv (.tmp 14)⟩,
⟨some 100, none, .call 129 .opn [(.tmp 97), (.tmp 98), (.tmp 99)]⟩] [] [8, 9])
(.seq
(.reg [⟨some 101, none, .ld (some 12) (.tmp 9)⟩,
⟨none, none, .st 12 (.tmp 8) (.tmp 101)⟩] [] [8])
(.ret))))))))))⟩
theorem pf85_ok : fnOk Tryz.prog 85 pf85 = true := by kernel_rfl

/-- (hinterland/train.search).choose -/
def pf86 : PFn := ⟨63, 2, [.cell 4 (some 3), .tmp 5], .seq
(.reg [⟨some 2, none, .boxp 117 (.tmp 0)⟩,
⟨some 3, none, .boxp 54 (.tmp 1)⟩,
⟨some 4, none, .zer 54 (.agg [(.int .i64 0), (.int .i64 0), (.int .i64 0)])⟩,
⟨some 5, none, .mv (.val (.bool false))⟩] [] [2, 3, 4])
(.seq
(.reg [⟨some 15, none, .faddr 0 (.tmp 2)⟩,
⟨some 16, none, .ld (some 9) (.tmp 15)⟩,
⟨some 17, none, .ld (some 3) (.tmp 3)⟩,
⟨some 18, none, .call 91 .pure [(.tmp 16), (.tmp 17)]⟩,
⟨some 6, none, .mv (.tmp 18)⟩] [] [2, 4, 6])
(.seq
(.seq
(.reg [⟨some 19, none, .mv (.tmp 6)⟩,
⟨some 20, none, .len (.tmp 19)⟩,
⟨some 21, none, .bin .eql (.tmp 20) (.val (.int .i64 0))⟩] [] [2, 4, 6, 21])
(.cond (.tmp 21)
(.seq
(.reg [⟨some 22, none, .bld [(.int .i64 0), (.int .i64 0), (.int .i64 0)] []⟩,
⟨none, none, .st 3 (.tmp 4) (.tmp 22)⟩,
⟨some 5, none, .mv (.val (.bool false))⟩] [] [4, 5])
(.ret))
(.skip)))
(.seq
(.reg [⟨some 23, none, .mv (.tmp 6)⟩,
⟨some 24, none, .iaS 3 (.tmp 23) (.val (.int .i64 0))⟩,
⟨some 25, none, .ld (some 3) (.tmp 24)⟩,
⟨some 26, none, .bld [(.int .i64 0), (.int .i64 0)] []⟩,
⟨some 7, none, .zer 54 (.agg [(.int .i64 0), (.int .i64 0), (.int .i64 0)])⟩,
⟨some 8, none, .zer 162 (.agg [(.int .i64 0), (.int .i64 0)])⟩,
⟨none, none, .st 3 (.tmp 7) (.tmp 25)⟩,
⟨none, none, .st 2 (.tmp 8) (.tmp 26)⟩,
⟨some 9, none, .mv (.val (.bool false))⟩] [] [2, 4, 6, 7, 8, 9])
(.seq
(.seq
(.reg [⟨some 27, none, .mv (.tmp 6)⟩,
⟨some 28, none, .len (.tmp 27)⟩,
⟨some 29, none, .mv (.val (.int .i64 0))⟩] [] [2, 4, 7, 8, 9, 27, 28, 29])
(.blk 0 (.loop (.trim (.seq
(.reg [⟨some 30, none, .bin .lss (.tmp 29) (.tmp 28)⟩] [] [2, 4, 7, 8, 9, 27, 28, 29, 30])
(.seq
(.cond (.tmp 30)
(.skip)
(.ext 0))
(.seq
(.blk 1 (.seq
(.reg [⟨some 31, none, .iaS 3 (.tmp 27) (.tmp 29)⟩,
⟨some 32, none, .ld (some 3) (.tmp 31)⟩,
⟨some 11, none, .zer 54 (.agg [(.int .i64 0), (.int .i64 0), (.int .i64 0)])⟩,
⟨none, none, .st 3 (.tmp 11) (.tmp 32)⟩] [] [2, 4, 7, 8, 9, 11, 27, 28, 29])
(.seq
(.reg [⟨some 34, none, .faddr 11 (.tmp 2)⟩,
⟨some 35, none, .ld none (.tmp 34)⟩,
⟨some 36, none, .ld (some 3) (.tmp 11)⟩,
⟨some 37, none, .mlk (some 3) (.agg [(.int .i64 0), (.int .i64 0)]) true (.tmp 35) (.tmp 36)⟩,
⟨some 33, none, .mv (.tmp 37)⟩,
⟨some 38, none, .ext 0 (.tmp 33)⟩,
⟨some 39, none, .ext 1 (.tmp 33)⟩,
⟨some 12, none, .zer 162 (.agg [(.int .i64 0), (.int .i64 0)])⟩,
⟨none, none, .st 2 (.tmp 12) (.tmp 38)⟩,
⟨some 13, none, .mv (.tmp 39)⟩] [] [2, 4, 7, 8, 9, 11, 12, 13, 27, 28, 29])
(.seq
(.seq
(.reg [⟨some 40, none, .mv (.tmp 13)⟩,
⟨some 41, none, .un .not (.tmp 40)⟩] [] [2, 4, 7, 8, 9, 11, 12, 27, 28, 29, 41])
(.cond (.tmp 41)
(.ext 1)
(.skip)))
(.seq
(.reg [⟨some 42, none, .faddr 0 (.tmp 12)⟩,
⟨some 43, none, .ld none (.tmp 42)⟩,
⟨some 44, none, .ld (some 12) (.tmp 2)⟩,
⟨some 45, none, .ld (some 3) (.tmp 11)⟩,
⟨some 46, none, .call 130 .pure [(.tmp 44), (.tmp 45)]⟩,
⟨some 47, none, .bin .add (.tmp 43) (.tmp 46)⟩,
⟨some 48, none, .faddr 1 (.tmp 12)⟩,
⟨some 49, none, .ld none (.tmp 48)⟩,
⟨some 50, none, .bin .add (.tmp 49) (.val (.int .i64 1))⟩,
⟨some 51, none, .bld [(.int .i64 0), (.int .i64 0)] [(0, 1, (.tmp 47)), (1, 1, (.tmp 50))]⟩,
⟨some 14, none, .zer 162 (.agg [(.int .i64 0), (.int .i64 0)])⟩,
⟨none, none, .st 2 (.tmp 14) (.tmp 51)⟩] [(1, 10), (1, 11), (2, 10), (2, 11), (3, 10), (3, 11), (4, 10), (4, 11), (7, 10), (7, 11)] [2, 4, 7, 8, 9, 11, 14, 27, 28, 29])
(.seq
(.reg [⟨some 52, none, .mv (.tmp 9)⟩,
⟨some 53, none, .un .not (.tmp 52)⟩,
⟨some 54, none, .mv (.tmp 53)⟩,
⟨some 55, (some (54, false)), .ld (some 2) (.tmp 14)⟩,
⟨some 56, (some (54, false)), .ld (some 2) (.tmp 8)⟩,
⟨some 57, (some (54, false)), .call 131 .pure [(.tmp 55), (.tmp 56)]⟩,
⟨some 58, none, .pick (.tmp 54) (.val (.bool true)) (.tmp 57)⟩] [] [2, 4, 7, 8, 9, 11, 14, 27, 28, 29, 58])
(.cond (.tmp 58)
(.reg [⟨some 59, none, .ld (some 3) (.tmp 11)⟩,
⟨some 60, none, .ld (some 2) (.tmp 14)⟩,
⟨none, none, .st 3 (.tmp 7) (.tmp 59)⟩,
⟨none, none, .st 2 (.tmp 8) (.tmp 60)⟩,
⟨some 9, none, .mv (.val (.bool true))⟩] [(1, 2), (1, 3)] [2, 4, 7, 8, 9, 27, 28, 29])
(.skip))))))))
(.reg [⟨some 61, none, .bin .add (.tmp 29) (.val (.int .i64 1))⟩,
⟨some 29, none, .mv (.tmp 61)⟩] [] [2, 4, 7, 8, 9, 27, 28, 29]))))))))
(.seq
(.reg [⟨some 62, none, .ld (some 3) (.tmp 7)⟩,
⟨none, none, .st 3 (.tmp 4) (.tmp 62)⟩,
⟨some 5, none, .mv (.val (.bool true))⟩] [] [4, 5])
(.ret))))))⟩
theorem pf86_ok : fnOk Tryz.prog 86 pf86 = true := by kernel_rfl

/-- (hinterland/train.field).holder -/
def pf87 : PFn := ⟨29, 3, [.tmp 6], .seq
(.reg [⟨some 3, none, .boxp 90 (.tmp 0)⟩,
⟨some 5, none, .boxp 54 (.tmp 2)⟩,
⟨some 6, none, .mv (.val (.int .i64 0))⟩] [] [1, 3, 5])
(.seq
(.seq
(.reg [⟨some 9, none, .faddr 0 (.tmp 3)⟩,
⟨some 10, none, .faddr 6 (.tmp 9)⟩,
⟨some 11, none, .ld none (.tmp 10)⟩,
⟨some 12, none, .len (.tmp 11)⟩,
⟨some 13, none, .mv (.val (.int .i64 0))⟩] [] [1, 5, 11, 12, 13])
(.blk 0 (.loop (.trim (.seq
(.reg [⟨some 14, none, .bin .lss (.tmp 13) (.tmp 12)⟩] [] [1, 5, 11, 12, 13, 14])
(.seq
(.cond (.tmp 14)
(.skip)
(.ext 0))
(.seq
(.blk 1 (.seq
(.reg [⟨some 15, none, .mv (.tmp 13)⟩,
⟨some 16, none, .iaS 5 (.tmp 11) (.tmp 13)⟩,
⟨some 17, none, .ld (some 5) (.tmp 16)⟩,
⟨some 8, none, .zer 68 (.agg [(.int .i64 0), (.int .i64 0), (.int .i64 0), (.list .nil 3 []), (.list .nil 3 [])])⟩,
⟨some 7, none, .mv (.tmp 15)⟩,
⟨none, none, .st 5 (.tmp 8) (.tmp 17)⟩] [] [1, 5, 7, 8, 11, 12, 13])
(.seq
(.reg [⟨some 18, none, .mv (.tmp 7)⟩,
⟨some 19, none, .mv (.tmp 1)⟩,
⟨some 20, none, .bin .neq (.tmp 18) (.tmp 19)⟩,
⟨some 21, none, .mv (.tmp 20)⟩,
⟨some 22, (some (21, true)), .ld (some 5) (.tmp 8)⟩,
⟨some 23, (some (21, true)), .call 59 .pure [(.tmp 22)]⟩,
⟨some 24, (some (21, true)), .mkf (.func 132) [] [(.tmp 5)]⟩,
⟨some 25, (some (21, true)), .call 70 .pure [(.tmp 23), (.tmp 24)]⟩,
⟨some 26, none, .pick (.tmp 21) (.tmp 25) (.val (.bool false))⟩] [] [1, 5, 7, 11, 12, 13, 26])
(.cond (.tmp 26)
(.seq
(.reg [⟨some 27, none, .mv (.tmp 7)⟩,
⟨some 6, none, .mv (.tmp 27)⟩] [] [6])
(.ret))
(.skip)))))
(.reg [⟨some 28, none, .bin .add (.tmp 13) (.val (.int .i64 1))⟩,
⟨some 13, none, .mv (.tmp 28)⟩] [] [1, 5, 11, 12, 13]))))))))
(.seq
(.reg [⟨some 6, none, .mv (.val (.int .i64 (-1)))⟩] [] [6])
(.ret)))⟩
theorem pf87_ok : fnOk Tryz.prog 87 pf87 = true := by kernel_rfl

/-- hinterland/rail.Next -/
def pf90 : PFn := ⟨17, 2, [.tmp 4, .tmp 5], .seq
(.reg [⟨some 2, none, .boxp 25 (.tmp 0)⟩,
⟨some 3, none, .boxp 54 (.tmp 1)⟩,
⟨some 4, none, .mv (.val (.list .nil 3 []))⟩,
⟨some 5, none, .mv (.val (.int .i64 0))⟩] [] [2, 3])
(.seq
(.seq
(.reg [⟨some 7, none, .ld (some 4) (.tmp 2)⟩,
⟨some 8, none, .ld (some 3) (.tmp 3)⟩,
⟨some 9, none, .bsl 1 3 [(.int .i64 0), (.int .i64 0), (.int .i64 0)] [(0, 3, (.tmp 8))]⟩,
⟨some 10, none, .call 134 .pure [(.tmp 7), (.tmp 9)]⟩,
⟨some 6, none, .mv (.tmp 10)⟩] [] [2, 3, 6])
(.seq
(.reg [⟨some 11, none, .mv (.tmp 6)⟩,
⟨some 12, none, .bin .neq (.tmp 11) (.val (.int .i64 0))⟩] [] [2, 3, 6, 12])
(.cond (.tmp 12)
(.seq
(.reg [⟨some 13, none, .mv (.tmp 6)⟩,
⟨some 4, none, .mv (.val (.list .nil 3 []))⟩,
⟨some 5, none, .mv (.tmp 13)⟩] [] [4, 5])
(.ret))
(.skip))))
(.seq
(.reg [⟨some 14, none, .ld (some 4) (.tmp 2)⟩,
⟨some 15, none, .ld (some 3) (.tmp 3)⟩,
⟨some 16, none, .call 135 .pure [(.tmp 14), (.tmp 15)]⟩,
⟨some 4, none, .mv (.tmp 16)⟩,
⟨some 5, none, .mv (.val (.int .i64 0))⟩] [] [4, 5])
(.ret)))⟩
theorem pf90_ok : fnOk Tryz.prog 90 pf90 = true := by kernel_rfl

/-- (hinterland/train.field).options -/
def pf91 : PFn := ⟨66, 2, [.tmp 4], .seq
(.reg [⟨some 2, none, .boxp 90 (.tmp 0)⟩,
⟨some 3, none, .boxp 54 (.tmp 1)⟩,
⟨some 4, none, .mv (.val (.list .nil 3 []))⟩] [] [2, 3])
(.seq
(.reg [⟨some 5, none, .nacc 54 3⟩] [] [2, 3, 5])
(.seq
(.reg [⟨some 13, none, .faddr 7 (.tmp 2)⟩,
⟨some 14, none, .ld none (.tmp 13)⟩,
⟨some 15, none, .ld (some 3) (.tmp 3)⟩,
⟨some 16, none, .mlk (some 3) (.int .i64 0) true (.tmp 14) (.tmp 15)⟩,
⟨some 12, none, .mv (.tmp 16)⟩,
⟨some 17, none, .ext 0 (.tmp 12)⟩,
⟨some 18, none, .ext 1 (.tmp 12)⟩,
⟨some 6, none, .mv (.tmp 17)⟩,
⟨some 7, none, .mv (.tmp 18)⟩] [] [2, 3, 5, 7])
(.seq
(.seq
(.reg [⟨some 19, none, .ld (some 9) (.tmp 2)⟩,
⟨some 20, none, .ld (some 3) (.tmp 3)⟩,
⟨some 21, none, .call 136 .pure [(.tmp 19), (.tmp 20)]⟩,
⟨some 22, none, .len (.tmp 21)⟩,
⟨some 23, none, .mv (.val (.int .i64 0))⟩] [] [2, 3, 5, 7, 21, 22, 23])
(.blk 0 (.loop (.trim (.seq
(.reg [⟨some 24, none, .bin .lss (.tmp 23) (.tmp 22)⟩] [] [2, 3, 5, 7, 21, 22, 23, 24])
(.seq
(.cond (.tmp 24)
(.skip)
(.ext 0))
(.seq
(.blk 1 (.seq
(.reg [⟨some 25, none, .iaS 3 (.tmp 21) (.tmp 23)⟩,
⟨some 26, none, .ld (some 3) (.tmp 25)⟩,
⟨some 9, none, .zer 54 (.agg [(.int .i64 0), (.int .i64 0), (.int .i64 0)])⟩,
⟨none, none, .st 3 (.tmp 9) (.tmp 26)⟩] [] [2, 3, 5, 7, 9, 21, 22, 23])
(.seq
(.reg [⟨some 28, none, .faddr 7 (.tmp 2)⟩,
⟨some 29, none, .ld none (.tmp 28)⟩,
⟨some 30, none, .faddr 0 (.tmp 9)⟩,
⟨some 31, none, .ld none (.tmp 30)⟩,
⟨some 32, none, .faddr 1 (.tmp 9)⟩,
⟨some 33, none, .ld none (.tmp 32)⟩,
⟨some 34, none, .faddr 2 (.tmp 3)⟩,
⟨some 35, none, .ld none (.tmp 34)⟩,
⟨some 36, none, .bin .add (.tmp 35) (.val (.int .i64 2))⟩,
⟨some 37, none, .bin .rem (.tmp 36) (.val (.int .i64 4))⟩,
⟨some 38, none, .bld [(.int .i64 0), (.int .i64 0), (.int .i64 0)] [(0, 1, (.tmp 31)), (1, 1, (.tmp 33)), (2, 1, (.tmp 37))]⟩,
⟨some 39, none, .mlk (some 3) (.int .i64 0) true (.tmp 29) (.tmp 38)⟩,
⟨some 27, none, .mv (.tmp 39)⟩,
⟨some 40, none, .ext 0 (.tmp 27)⟩,
⟨some 41, none, .ext 1 (.tmp 27)⟩,
⟨some 10, none, .mv (.tmp 40)⟩,
⟨some 11, none, .mv (.tmp 41)⟩] [] [2, 3, 5, 7, 9, 10, 11, 21, 22, 23])
(.seq
(.reg [⟨some 42, none, .mv (.tmp 7)⟩,
⟨some 43, none, .mv (.tmp 42)⟩,
⟨some 44, (some (43, false)), .mv (.tmp 11)⟩,
⟨some 45, (some (43, false)), .un .not (.tmp 44)⟩,
⟨some 46, none, .pick (.tmp 43) (.val (.bool true)) (.tmp 45)⟩,
⟨some 47, none, .mv (.tmp 46)⟩,
⟨some 48, (some (47, false)), .mv (.tmp 10)⟩,
⟨some 49, (some (47, false)), .bin .eql (.tmp 48) (.val (.int .i64 4))⟩,
⟨some 50, none, .pick (.tmp 47) (.val (.bool true)) (.tmp 49)⟩] [] [2, 3, 5, 7, 9, 21, 22, 23, 50])
(.cond (.tmp 50)
(.reg [⟨some 51, none, .mv (.tmp 5)⟩,
⟨some 52, none, .ld (some 3) (.tmp 9)⟩,
⟨some 53, none, .bsl 1 3 [(.int .i64 0), (.int .i64 0), (.int .i64 0)] [(0, 3, (.tmp 52))]⟩,
⟨some 54, none, .app 54 3 24 (.tmp 51) (.tmp 53)⟩,
⟨some 5, none, .mv (.tmp 54)⟩] [] [2, 3, 5, 7, 21, 22, 23])
(.skip))))))
(.reg [⟨some 55, none, .bin .add (.tmp 23) (.val (.int .i64 1))⟩,
⟨some 23, none, .mv (.tmp 55)⟩] [] [2, 3, 5, 7, 21, 22, 23]))))))))
(.seq
(.reg [⟨some 56, none, .mv (.tmp 5)⟩,
⟨some 57, none, .faddr 8 (.tmp 2)⟩,
⟨some 58, none, .ld none (.tmp 57)⟩,
⟨some 59, none, .ld (some 3) (.tmp 3)⟩,
⟨some 60, none, .mlk (some 3) (.list .nil 3 []) false (.tmp 58) (.tmp 59)⟩,
⟨some 61, none, .app 54 3 24 (.tmp 56) (.tmp 60)⟩,
⟨some 5, none, .mv (.tmp 61)⟩] [] [5])
(.seq
(.reg [⟨some 62, none, .mv (.tmp 5)⟩,
⟨some 63, none, .call 137 .opn [(.tmp 62), (.val (.clo (.func 56) [] []))]⟩] [] [5])
(.seq
(.reg [⟨some 64, none, .mv (.tmp 5)⟩,
⟨some 65, none, .call 138 .opn [(.tmp 64)]⟩,
⟨some 4, none, .mv (.tmp 65)⟩] [] [4])
(.ret)))))))⟩
theorem pf91_ok : fnOk Tryz.prog 91 pf91 = true := by kernel_rfl

/-- slices.Contains[[]hinterland/api.Spot,hinterland/api.Spot] -/
def pf94 : PFn := ⟨9, 2, [.tmp 4], .seq
(.reg [⟨some 3, none, .boxp 54 (.tmp 1)⟩,
⟨some 4, none, .mv (.val (.bool false))⟩] [] [0, 3])
(.seq
(.reg [⟨some 5, none, .mv (.tmp 0)⟩,
⟨some 6, none, .ld (some 3) (.tmp 3)⟩,
⟨some 7, none, .call 143 .pure [(.tmp 5), (.tmp 6)]⟩,
⟨some 8, none, .bin .geq (.tmp 7) (.val (.int .i64 0))⟩,
⟨some 4, none, .mv (.tmp 8)⟩] [] [4])
(.ret))⟩
theorem pf94_ok : fnOk Tryz.prog 94 pf94 = true := by kernel_rfl

/-- (hinterland/train.search).reserve -/
def pf95 : PFn := ⟨84, 3, [.tmp 6, .tmp 7], .seq
(.reg [⟨some 3, none, .boxp 117 (.tmp 0)⟩,
⟨some 4, none, .boxp 68 (.tmp 1)⟩,
⟨some 5, none, .boxm 54 (.tmp 2)⟩,
⟨some 6, none, .mv (.val (.list .nil 3 []))⟩,
⟨some 7, none, .mv (.val (.bool false))⟩] [] [3, 4, 5])
(.seq
(.reg [⟨some 17, none, .mkm (some 2)⟩,
⟨some 8, none, .mv (.tmp 17)⟩] [] [3, 4, 5, 8])
(.seq
(.seq
(.reg [⟨some 18, none, .ld (some 5) (.tmp 4)⟩,
⟨some 19, none, .call 59 .pure [(.tmp 18)]⟩,
⟨some 20, none, .len (.tmp 19)⟩,
⟨some 21, none, .mv (.val (.int .i64 0))⟩] [] [3, 5, 8, 19, 20, 21])
(.blk 0 (.loop (.trim (.seq
(.reg [⟨some 22, none, .bin .lss (.tmp 21) (.tmp 20)⟩] [] [3, 5, 8, 19, 20, 21, 22])
(.seq
(.cond (.tmp 22)
(.skip)
(.ext 0))
(.seq
(.blk 1 (.seq
(.reg [⟨some 23, none, .iaS 3 (.tmp 19) (.tmp 21)⟩,
⟨some 24, none, .ld (some 3) (.tmp 23)⟩,
⟨some 10, none, .zer 54 (.agg [(.int .i64 0), (.int .i64 0), (.int .i64 0)])⟩,
⟨none, none, .st 3 (.tmp 10) (.tmp 24)⟩] [] [3, 5, 8, 10, 19, 20, 21])
(.reg [⟨some 25, none, .mv (.tmp 8)⟩,
⟨some 26, none, .faddr 0 (.tmp 10)⟩,
⟨some 27, none, .ld none (.tmp 26)⟩,
⟨some 28, none, .faddr 1 (.tmp 10)⟩,
⟨some 29, none, .ld none (.tmp 28)⟩,
⟨some 30, none, .bld [(.int .i64 0), (.int .i64 0)] [(0, 1, (.tmp 27)), (1, 1, (.tmp 29))]⟩,
⟨none, none, .mup (some 2) (.tmp 25) (.tmp 30) (.val (.bool true))⟩] [] [3, 5, 8, 19, 20, 21])))
(.reg [⟨some 31, none, .bin .add (.tmp 21) (.val (.int .i64 1))⟩,
⟨some 21, none, .mv (.tmp 31)⟩] [] [3, 5, 8, 19, 20, 21]))))))))
(.seq
(.reg [⟨some 11, none, .nacc 54 3⟩] [] [3, 5, 8, 11])
(.blk 2 (.loop (.trim (.blk 3 (.seq
(.reg [⟨some 32, none, .faddr 0 (.tmp 5)⟩,
⟨some 33, none, .ld none (.tmp 32)⟩,
⟨some 34, none, .faddr 1 (.tmp 5)⟩,
⟨some 35, none, .ld none (.tmp 34)⟩,
⟨some 36, none, .bld [(.int .i64 0), (.int .i64 0)] [(0, 1, (.tmp 33)), (1, 1, (.tmp 35))]⟩,
⟨some 12, none, .zer 133 (.agg [(.int .i64 0), (.int .i64 0)])⟩,
⟨none, none, .st 2 (.tmp 12) (.tmp 36)⟩] [] [3, 5, 8, 11, 12])
(.seq
(.seq
(.reg [⟨some 37, none, .mv (.tmp 8)⟩,
⟨some 38, none, .ld (some 2) (.tmp 12)⟩,
⟨some 39, none, .mlk (some 2) (.bool false) false (.tmp 37) (.tmp 38)⟩,
⟨some 40, none, .mv (.tmp 39)⟩,
⟨some 41, (some (40, false)), .faddr 9 (.tmp 3)⟩,
⟨some 42, (some (40, false)), .ld none (.tmp 41)⟩,
⟨some 43, (some (40, false)), .ld (some 3) (.tmp 5)⟩,
⟨some 44, (some (40, false)), .call 72 .pure [(.tmp 42), (.tmp 43)]⟩,
⟨some 45, none, .pick (.tmp 40) (.val (.bool true)) (.tmp 44)⟩,
⟨some 46, none, .mv (.tmp 45)⟩,
⟨some 47, (some (46, false)), .mv (.tmp 11)⟩,
⟨some 48, (some (46, false)), .len (.tmp 47)⟩,
⟨some 49, (some (46, false)), .bin .geq (.tmp 48) (.val (.int .i64 60))⟩,
⟨some 50, none, .pick (.tmp 46) (.val (.bool true)) (.tmp 49)⟩] [] [3, 5, 8, 11, 12, 50])
(.cond (.tmp 50)
(.seq
(.reg [⟨some 6, none, .mv (.val (.list .nil 3 []))⟩,
⟨some 7, none, .mv (.val (.bool false))⟩] [] [6, 7])
(.ret))
(.skip)))
(.seq
(.reg [⟨some 51, none, .mv (.tmp 8)⟩,
⟨some 52, none, .ld (some 2) (.tmp 12)⟩,
⟨none, none, .mup (some 2) (.tmp 51) (.tmp 52) (.val (.bool true))⟩] [] [3, 5, 8, 11])
(.seq
(.reg [⟨some 53, none, .mv (.tmp 11)⟩,
⟨some 54, none, .ld (some 3) (.tmp 5)⟩,
⟨some 55, none, .bsl 1 3 [(.int .i64 0), (.int .i64 0), (.int .i64 0)] [(0, 3, (.tmp 54))]⟩,
⟨some 56, none, .app 54 3 24 (.tmp 53) (.tmp 55)⟩,
⟨some 11, none, .mv (.tmp 56)⟩] [] [3, 5, 8, 11])
(.seq
(.seq
(.reg [⟨some 58, none, .faddr 0 (.tmp 3)⟩,
⟨some 59, none, .faddr 7 (.tmp 58)⟩,
⟨some 60, none, .ld none (.tmp 59)⟩,
⟨some 61, none, .ld (some 3) (.tmp 5)⟩,
⟨some 62, none, .mlk (some 3) (.int .i64 0) true (.tmp 60) (.tmp 61)⟩,
⟨some 57, none, .mv (.tmp 62)⟩,
⟨some 63, none, .ext 0 (.tmp 57)⟩,
⟨some 64, none, .ext 1 (.tmp 57)⟩,
⟨some 13, none, .mv (.tmp 63)⟩,
⟨some 14, none, .mv (.tmp 64)⟩] [] [3, 5, 8, 11, 14])
(.seq
(.reg [⟨some 65, none, .mv (.tmp 14)⟩,
⟨some 66, none, .mv (.tmp 65)⟩,
⟨some 67, (some (66, false)), .faddr 10 (.tmp 3)⟩,
⟨some 68, (some (66, false)), .ld none (.tmp 67)⟩,
⟨some 69, (some (66, false)), .faddr 0 (.tmp 5)⟩,
⟨some 70, (some (66, false)), .ld none (.tmp 69)⟩,
⟨some 71, (some (66, false)), .mlk none (.bool false) false (.tmp 68) (.tmp 70)⟩,
⟨some 72, none, .pick (.tmp 66) (.val (.bool true)) (.tmp 71)⟩] [] [3, 5, 8, 11, 72])
(.cond (.tmp 72)
(.seq
(.reg [⟨some 73, none, .mv (.tmp 11)⟩,
⟨some 6, none, .mv (.tmp 73)⟩,
⟨some 7, none, .mv (.val (.bool true))⟩] [] [6, 7])
(.ret))
(.skip))))
(.seq
(.reg [⟨some 75, none, .ld (some 12) (.tmp 3)⟩,
⟨some 76, none, .ld (some 3) (.tmp 5)⟩,
⟨some 77, none, .call 86 .pure [(.tmp 75), (.tmp 76)]⟩,
⟨some 74, none, .mv (.tmp 77)⟩,
⟨some 78, none, .ext 0 (.tmp 74)⟩,
⟨some 79, none, .ext 1 (.tmp 74)⟩,
⟨some 15, none, .zer 54 (.agg [(.int .i64 0), (.int .i64 0), (.int .i64 0)])⟩,
⟨none, none, .st 3 (.tmp 15) (.tmp 78)⟩,
⟨some 16, none, .mv (.tmp 79)⟩] [] [3, 5, 8, 11, 15, 16])
(.seq
(.seq
(.reg [⟨some 80, none, .mv (.tmp 16)⟩,
⟨some 81, none, .un .not (.tmp 80)⟩] [] [3, 5, 8, 11, 15, 81])
(.cond (.tmp 81)
(.seq
(.reg [⟨some 82, none, .mv (.tmp 11)⟩,
⟨some 6, none, .mv (.tmp 82)⟩,
⟨some 7, none, .mv (.val (.bool true))⟩] [] [6, 7])
(.ret))
(.skip)))
(.reg [⟨some 83, none, .ld (some 3) (.tmp 15)⟩,
⟨none, none, .st 3 (.tmp 5) (.tmp 83)⟩] [] [3, 5, 8, 11])))))))))))))))⟩
theorem pf95_ok : fnOk Tryz.prog 95 pf95 = true := by kernel_rfl

/-- hinterland/train.blocks -/
def pf97 : PFn := ⟨43, 1, [.tmp 2], .seq
(.reg [⟨some 1, none, .boxp 30 (.tmp 0)⟩,
⟨some 2, none, .mv (.val .nilmap)⟩] [] [1])
(.seq
(.reg [⟨some 10, none, .mkm (some 2)⟩,
⟨some 3, none, .mv (.tmp 10)⟩] [] [1, 3])
(.seq
(.reg [⟨some 12, none, .faddr 0 (.tmp 1)⟩,
⟨some 13, none, .ld (some 4) (.tmp 12)⟩,
⟨some 14, none, .faddr 4 (.tmp 1)⟩,
⟨some 15, none, .ld none (.tmp 14)⟩,
⟨some 16, none, .call 145 .pure [(.tmp 13), (.tmp 15)]⟩,
⟨some 11, none, .mv (.tmp 16)⟩,
⟨some 17, none, .ext 0 (.tmp 11)⟩,
⟨some 18, none, .ext 1 (.tmp 11)⟩,
⟨some 4, none, .mv (.tmp 17)⟩,
⟨some 5, none, .mv (.tmp 18)⟩] [] [3, 4])
(.seq
(.seq
(.reg [⟨some 19, none, .mv (.tmp 4)⟩,
⟨some 20, none, .len (.tmp 19)⟩,
⟨some 21, none, .mv (.val (.int .i64 0))⟩] [] [3, 19, 20, 21])
(.blk 0 (.loop (.trim (.seq
(.reg [⟨some 22, none, .bin .lss (.tmp 21) (.tmp 20)⟩] [] [3, 19, 20, 21, 22])
(.seq
(.cond (.tmp 22)
(.skip)
(.ext 0))
(.seq
(.blk 1 (.seq
(.reg [⟨some 23, none, .iaS 2 (.tmp 19) (.tmp 21)⟩,
⟨some 24, none, .ld (some 2) (.tmp 23)⟩,
⟨some 7, none, .zer 179 (.agg [(.int .i64 0), (.list .nil 1 [])])⟩,
⟨none, none, .st 2 (.tmp 7) (.tmp 24)⟩] [] [3, 7, 19, 20, 21])
(.seq
(.reg [⟨some 25, none, .faddr 1 (.tmp 7)⟩,
⟨some 26, none, .ld none (.tmp 25)⟩,
⟨some 27, none, .len (.tmp 26)⟩,
⟨some 28, none, .mv (.val (.int .i64 0))⟩] [] [3, 7, 19, 20, 21, 26, 27, 28])
(.blk 2 (.loop (.seq
(.reg [⟨some 29, none, .bin .lss (.tmp 28) (.tmp 27)⟩] [] [3, 7, 19, 20, 21, 26, 27, 28, 29])
(.seq
(.cond (.tmp 29)
(.skip)
(.ext 2))
(.seq
(.blk 3 (.seq
(.reg [⟨some 30, none, .iaS 1 (.tmp 26) (.tmp 28)⟩,
⟨some 31, none, .ld none (.tmp 30)⟩,
⟨some 9, none, .mv (.tmp 31)⟩] [] [3, 7, 9, 19, 20, 21, 26, 27, 28])
(.reg [⟨some 32, none, .mv (.tmp 3)⟩,
⟨some 33, none, .mv (.tmp 9)⟩,
⟨some 34, none, .bin .quo (.tmp 33) (.val (.int .i64 8))⟩,
⟨some 35, none, .mv (.tmp 9)⟩,
⟨some 36, none, .bin .rem (.tmp 35) (.val (.int .i64 8))⟩,
⟨some 37, none, .bld [(.int .i64 0), (.int .i64 0)] [(0, 1, (.tmp 34)), (1, 1, (.tmp 36))]⟩,
⟨some 38, none, .faddr 0 (.tmp 7)⟩,
⟨some 39, none, .ld none (.tmp 38)⟩,
⟨none, none, .mup (some 2) (.tmp 32) (.tmp 37) (.tmp 39)⟩] [] [3, 7, 19, 20, 21, 26, 27, 28])))
(.reg [⟨some 40, none, .bin .add (.tmp 28) (.val (.int .i64 1))⟩,
⟨some 28, none, .mv (.tmp 40)⟩] [] [3, 7, 19, 20, 21, 26, 27, 28])))))))))
(.reg [⟨some 41, none, .bin .add (.tmp 21) (.val (.int .i64 1))⟩,
⟨some 21, none, .mv (.tmp 41)⟩] [] [3, 19, 20, 21]))))))))
(.seq
(.reg [⟨some 42, none, .mv (.tmp 3)⟩,
⟨some 2, none, .mv (.tmp 42)⟩] [] [2])
(.ret)))))⟩
theorem pf97_ok : fnOk Tryz.prog 97 pf97 = true := by kernel_rfl

/-- (hinterland/train.field).heldBlocks -/
def pf98 : PFn := ⟨41, 3, [.tmp 6], .seq
(.reg [⟨some 3, none, .boxp 90 (.tmp 0)⟩,
⟨some 6, none, .mv (.val (.list .nil 1 []))⟩] [] [1, 2, 3])
(.seq
(.reg [⟨some 7, none, .nacc 3 1⟩] [] [1, 2, 3, 7])
(.mrng ⟨[⟨some 11, none, .ld (some 9) (.tmp 3)⟩,
⟨some 12, none, .mv (.tmp 1)⟩,
⟨some 13, none, .call 69 .pure [(.tmp 11), (.tmp 12)]⟩], (.tmp 13), 14, 15, 16, 17, [⟨some 18, none, .ext 0 (.tmp 17)⟩,
⟨some 19, none, .ext 1 (.tmp 17)⟩,
⟨some 8, none, .mv (.tmp 18)⟩,
⟨some 9, none, .mv (.tmp 19)⟩], [2, 7, 8, 9, 14], 0, 1, [6]⟩
(.seq
(.reg [⟨some 20, none, .mv (.val (.int .i64 0))⟩] [] [2, 7, 8, 9, 14, 20])
(.blk 2 (.loop (.seq
(.reg [⟨some 21, none, .bin .lss (.tmp 20) (.val (.int .i64 6))⟩] [] [2, 7, 8, 9, 14, 20, 21])
(.seq
(.cond (.tmp 21)
(.skip)
(.ext 2))
(.seq
(.blk 3 (.seq
(.reg [⟨some 22, none, .mv (.tmp 20)⟩,
⟨some 10, none, .mv (.tmp 22)⟩] [] [2, 7, 8, 9, 10, 14, 20])
(.seq
(.reg [⟨some 23, none, .mv (.tmp 9)⟩,
⟨some 24, none, .mv (.tmp 10)⟩,
⟨some 25, none, .bin .shr (.tmp 23) (.tmp 24)⟩,
⟨some 26, none, .bin .and (.tmp 25) (.val (.int .i64 1))⟩,
⟨some 27, none, .bin .eql (.tmp 26) (.val (.int .i64 1))⟩] [] [2, 7, 8, 9, 10, 14, 20, 27])
(.cond (.tmp 27)
(.reg [⟨some 28, none, .mv (.tmp 7)⟩,
⟨some 29, none, .mv (.tmp 2)⟩,
⟨some 30, none, .mv (.tmp 8)⟩,
⟨some 31, none, .mv (.tmp 10)⟩,
⟨some 32, none, .bld [(.int .i64 0), (.int .i64 0)] [(0, 1, (.tmp 30)), (1, 1, (.tmp 31))]⟩,
⟨some 33, none, .mlk (some 2) (.int .i64 0) false (.tmp 29) (.tmp 32)⟩,
⟨some 34, none, .bsl 1 1 [(.int .i64 0)] [(0, 1, (.tmp 33))]⟩,
⟨some 35, none, .app 3 1 8 (.tmp 28) (.tmp 34)⟩,
⟨some 7, none, .mv (.tmp 35)⟩] [] [2, 7, 8, 9, 14, 20])
(.skip)))))
(.reg [⟨some 36, none, .bin .add (.tmp 20) (.val (.int .i64 1))⟩,
⟨some 20, none, .mv (.tmp 36)⟩] [] [2, 7, 8, 9, 14, 20])))))))
(.seq
(.reg [⟨some 37, none, .mv (.tmp 7)⟩,
⟨some 38, none, .call 146 .opn [(.tmp 37)]⟩] [] [7])
(.seq
(.reg [⟨some 39, none, .mv (.tmp 7)⟩,
⟨some 40, none, .call 147 .opn [(.tmp 39)]⟩,
⟨some 6, none, .mv (.tmp 40)⟩] [] [6])
(.ret)))))⟩
theorem pf98_ok : fnOk Tryz.prog 98 pf98 = true := by kernel_rfl

/-- hinterland/train.ends -/
def pf102 : PFn := ⟨15, 1, [.tmp 2, .tmp 3], .seq
(.reg [⟨some 2, none, .mv (.val (.int .i64 0))⟩,
⟨some 3, none, .mv (.val (.int .i64 0))⟩] [] [0])
(.seq
(.seq
(.reg [⟨some 4, none, .mv (.tmp 0)⟩] [] [4])
(.blk 0 (.seq
(.reg [⟨some 6, none, .bin .eql (.tmp 4) (.val (.int .i64 0))⟩,
⟨some 5, none, .mv (.tmp 6)⟩] [] [4, 5])
(.cond (.tmp 5)
(.seq
(.reg [⟨some 2, none, .mv (.val (.int .i64 0))⟩,
⟨some 3, none, .mv (.val (.int .i64 2))⟩] [] [2, 3])
(.ret))
(.seq
(.reg [⟨some 8, none, .bin .eql (.tmp 4) (.val (.int .i64 1))⟩,
⟨some 7, none, .mv (.tmp 8)⟩] [] [4, 7])
(.cond (.tmp 7)
(.seq
(.reg [⟨some 2, none, .mv (.val (.int .i64 1))⟩,
⟨some 3, none, .mv (.val (.int .i64 3))⟩] [] [2, 3])
(.ret))
(.seq
(.reg [⟨some 10, none, .bin .eql (.tmp 4) (.val (.int .i64 2))⟩,
⟨some 9, none, .mv (.tmp 10)⟩] [] [4, 9])
(.cond (.tmp 9)
(.seq
(.reg [⟨some 2, none, .mv (.val (.int .i64 0))⟩,
⟨some 3, none, .mv (.val (.int .i64 1))⟩] [] [2, 3])
(.ret))
(.seq
(.reg [⟨some 12, none, .bin .eql (.tmp 4) (.val (.int .i64 3))⟩,
⟨some 11, none, .mv (.tmp 12)⟩] [] [4, 11])
(.cond (.tmp 11)
(.seq
(.reg [⟨some 2, none, .mv (.val (.int .i64 1))⟩,
⟨some 3, none, .mv (.val (.int .i64 2))⟩] [] [2, 3])
(.ret))
(.seq
(.reg [⟨some 14, none, .bin .eql (.tmp 4) (.val (.int .i64 4))⟩,
⟨some 13, none, .mv (.tmp 14)⟩] [] [13])
(.cond (.tmp 13)
(.seq
(.reg [⟨some 2, none, .mv (.val (.int .i64 2))⟩,
⟨some 3, none, .mv (.val (.int .i64 3))⟩] [] [2, 3])
(.ret))
(.skip)))))))))))))
(.seq
(.reg [⟨some 2, none, .mv (.val (.int .i64 3))⟩,
⟨some 3, none, .mv (.val (.int .i64 0))⟩] [] [2, 3])
(.ret)))⟩
theorem pf102_ok : fnOk Tryz.prog 102 pf102 = true := by kernel_rfl

/-- hinterland/rail.Validate -/
def pf104 : PFn := ⟨71, 1, [.tmp 2], .seq
(.reg [⟨some 1, none, .boxp 25 (.tmp 0)⟩,
⟨some 2, none, .mv (.val (.int .i64 0))⟩] [] [1])
(.seq
(.seq
(.reg [⟨some 5, none, .faddr 0 (.tmp 1)⟩,
⟨some 6, none, .ld none (.tmp 5)⟩,
⟨some 7, none, .bin .lss (.tmp 6) (.val (.int .i64 4))⟩,
⟨some 8, none, .mv (.tmp 7)⟩,
⟨some 9, (some (8, false)), .faddr 0 (.tmp 1)⟩,
⟨some 10, (some (8, false)), .ld none (.tmp 9)⟩,
⟨some 11, (some (8, false)), .bin .gtr (.tmp 10) (.val (.int .i64 32))⟩,
⟨some 12, none, .pick (.tmp 8) (.val (.bool true)) (.tmp 11)⟩,
⟨some 13, none, .mv (.tmp 12)⟩,
⟨some 14, (some (13, false)), .faddr 1 (.tmp 1)⟩,
⟨some 15, (some (13, false)), .ld none (.tmp 14)⟩,
⟨some 16, (some (13, false)), .bin .lss (.tmp 15) (.val (.int .i64 4))⟩,
⟨some 17, none, .pick (.tmp 13) (.val (.bool true)) (.tmp 16)⟩,
⟨some 18, none, .mv (.tmp 17)⟩,
⟨some 19, (some (18, false)), .faddr 1 (.tmp 1)⟩,
⟨some 20, (some (18, false)), .ld none (.tmp 19)⟩,
⟨some 21, (some (18, false)), .bin .gtr (.tmp 20) (.val (.int .i64 32))⟩,
⟨some 22, none, .pick (.tmp 18) (.val (.bool true)) (.tmp 21)⟩,
⟨some 23, none, .mv (.tmp 22)⟩,
⟨some 24, (some (23, false)), .faddr 2 (.tmp 1)⟩,
⟨some 25, (some (23, false)), .ld none (.tmp 24)⟩,
⟨some 26, (some (23, false)), .len (.tmp 25)⟩,
⟨some 27, (some (23, false)), .faddr 0 (.tmp 1)⟩,
⟨some 28, (some (23, false)), .ld none (.tmp 27)⟩,
⟨some 29, (some (23, false)), .faddr 1 (.tmp 1)⟩,
⟨some 30, (some (23, false)), .ld none (.tmp 29)⟩,
⟨some 31, (some (23, false)), .bin .mul (.tmp 28) (.tmp 30)⟩,
⟨some 32, (some (23, false)), .bin .neq (.tmp 26) (.tmp 31)⟩,
⟨some 33, none, .pick (.tmp 23) (.val (.bool true)) (.tmp 32)⟩,
⟨some 34, none, .mv (.tmp 33)⟩,
⟨some 35, (some (34, false)), .faddr 3 (.tmp 1)⟩,
⟨some 36, (some (34, false)), .ld none (.tmp 35)⟩,
⟨some 37, (some (34, false)), .len (.tmp 36)⟩,
⟨some 38, (some (34, false)), .faddr 0 (.tmp 1)⟩,
⟨some 39, (some (34, false)), .ld none (.tmp 38)⟩,
⟨some 40, (some (34, false)), .faddr 1 (.tmp 1)⟩,
⟨some 41, (some (34, false)), .ld none (.tmp 40)⟩,
⟨some 42, (some (34, false)), .bin .mul (.tmp 39) (.tmp 41)⟩,
⟨some 43, (some (34, false)), .bin .neq (.tmp 37) (.tmp 42)⟩,
⟨some 44, none, .pick (.tmp 34) (.val (.bool true)) (.tmp 43)⟩] [] [1, 44])
(.cond (.tmp 44)
(.seq
(.reg [⟨some 2, none, .mv (.val (.int .i64 1))⟩] [] [2])
(.ret))
(.skip)))
(.seq
(.seq
(.reg [⟨some 45, none, .faddr 2 (.tmp 1)⟩,
⟨some 46, none, .ld none (.tmp 45)⟩,
⟨some 47, none, .len (.tmp 46)⟩,
⟨some 48, none, .mv (.val (.int .i64 0))⟩] [] [1, 46, 47, 48])
(.blk 0 (.loop (.seq
(.reg [⟨some 49, none, .bin .lss (.tmp 48) (.tmp 47)⟩] [] [1, 46, 47, 48, 49])
(.seq
(.cond (.tmp 49)
(.skip)
(.ext 0))
(.seq
(.blk 1 (.seq
(.reg [⟨some 50, none, .mv (.tmp 48)⟩,
⟨some 51, none, .iaS 1 (.tmp 46) (.tmp 48)⟩,
⟨some 52, none, .ld none (.tmp 51)⟩,
⟨some 3, none, .mv (.tmp 50)⟩,
⟨some 4, none, .mv (.tmp 52)⟩] [] [1, 3, 4, 46, 47, 48])
(.seq
(.reg [⟨some 53, none, .mv (.tmp 4)⟩,
⟨some 54, none, .bin .lss (.tmp 53) (.val (.int .i64 0))⟩,
⟨some 55, none, .mv (.tmp 54)⟩,
⟨some 56, (some (55, false)), .mv (.tmp 4)⟩,
⟨some 57, (some (55, false)), .bin .geq (.tmp 56) (.val (.int .i64 64))⟩,
⟨some 58, none, .pick (.tmp 55) (.val (.bool true)) (.tmp 57)⟩,
⟨some 59, none, .mv (.tmp 58)⟩,
⟨some 60, (some (59, false)), .mv (.tmp 4)⟩,
⟨some 61, (some (59, false)), .bin .eql (.tmp 60) (.val (.int .i64 0))⟩,
⟨some 62, (some (59, false)), .mv (.tmp 61)⟩,
⟨some 63, (some (62, true)), .faddr 3 (.tmp 1)⟩,
⟨some 64, (some (62, true)), .ld none (.tmp 63)⟩,
⟨some 65, (some (62, true)), .mv (.tmp 3)⟩,
⟨some 66, (some (62, true)), .iaS 1 (.tmp 64) (.tmp 65)⟩,
⟨some 67, (some (62, true)), .ld none (.tmp 66)⟩,
⟨some 68, (some (59, false)), .pick (.tmp 62) (.tmp 67) (.val (.bool false))⟩,
⟨some 69, none, .pick (.tmp 59) (.val (.bool true)) (.tmp 68)⟩] [] [1, 46, 47, 48, 69])
(.cond (.tmp 69)
(.seq
(.reg [⟨some 2, none, .mv (.val (.int .i64 1))⟩] [] [2])
(.ret))
(.skip)))))
(.reg [⟨some 70, none, .bin .add (.tmp 48) (.val (.int .i64 1))⟩,
⟨some 48, none, .mv (.tmp 70)⟩] [] [1, 46, 47, 48])))))))
(.seq
(.reg [⟨some 2, none, .mv (.val (.int .i64 0))⟩] [] [2])
(.ret))))⟩
theorem pf104_ok : fnOk Tryz.prog 104 pf104 = true := by kernel_rfl

/-- hinterland/block.compare -/
def pf105 : PFn := ⟨22, 2, [.tmp 4], .seq
(.reg [⟨some 2, none, .boxp 75 (.tmp 0)⟩,
⟨some 3, none, .boxp 75 (.tmp 1)⟩,
⟨some 4, none, .mv (.val (.int .i64 0))⟩] [] [2, 3])
(.seq
(.reg [⟨some 5, none, .faddr 0 (.tmp 2)⟩,
⟨some 6, none, .ld none (.tmp 5)⟩,
⟨some 7, none, .faddr 0 (.tmp 3)⟩,
⟨some 8, none, .ld none (.tmp 7)⟩,
⟨some 9, none, .call 108 .pure [(.tmp 6), (.tmp 8)]⟩,
⟨some 10, none, .faddr 1 (.tmp 2)⟩,
⟨some 11, none, .ld none (.tmp 10)⟩,
⟨some 12, none, .faddr 1 (.tmp 3)⟩,
⟨some 13, none, .ld none (.tmp 12)⟩,
⟨some 14, none, .call 108 .pure [(.tmp 11), (.tmp 13)]⟩,
⟨some 15, none, .faddr 2 (.tmp 2)⟩,
⟨some 16, none, .ld none (.tmp 15)⟩,
⟨some 17, none, .faddr 2 (.tmp 3)⟩,
⟨some 18, none, .ld none (.tmp 17)⟩,
⟨some 19, none, .call 108 .pure [(.tmp 16), (.tmp 18)]⟩,
⟨some 20, none, .bsl 3 1 [(.int .i64 0)] [(0, 1, (.tmp 9)), (1, 1, (.tmp 14)), (2, 1, (.tmp 19))]⟩,
⟨some 21, none, .call 55 .pure [(.tmp 20)]⟩,
⟨some 4, none, .mv (.tmp 21)⟩] [] [4])
(.ret))⟩
theorem pf105_ok : fnOk Tryz.prog 105 pf105 = true := by kernel_rfl

/-- hinterland/block.lies -/
def pf106 : PFn := ⟨37, 3, [.tmp 6], .seq
(.reg [⟨some 3, none, .boxp 25 (.tmp 0)⟩,
⟨some 6, none, .mv (.val (.bool false))⟩] [] [1, 2, 3])
(.seq
(.reg [⟨some 7, none, .mv (.tmp 1)⟩,
⟨some 8, none, .bin .geq (.tmp 7) (.val (.int .i64 0))⟩,
⟨some 9, none, .mv (.tmp 8)⟩,
⟨some 10, (some (9, true)), .mv (.tmp 1)⟩,
⟨some 11, (some (9, true)), .faddr 0 (.tmp 3)⟩,
⟨some 12, (some (9, true)), .ld none (.tmp 11)⟩,
⟨some 13, (some (9, true)), .faddr 1 (.tmp 3)⟩,
⟨some 14, (some (9, true)), .ld none (.tmp 13)⟩,
⟨some 15, (some (9, true)), .bin .mul (.tmp 12) (.tmp 14)⟩,
⟨some 16, (some (9, true)), .bin .lss (.tmp 10) (.tmp 15)⟩,
⟨some 17, none, .pick (.tmp 9) (.tmp 16) (.val (.bool false))⟩,
⟨some 18, none, .mv (.tmp 17)⟩,
⟨some 19, (some (18, true)), .mv (.tmp 2)⟩,
⟨some 20, (some (18, true)), .bin .geq (.tmp 19) (.val (.int .i64 0))⟩,
⟨some 21, none, .pick (.tmp 18) (.tmp 20) (.val (.bool false))⟩,
⟨some 22, none, .mv (.tmp 21)⟩,
⟨some 23, (some (22, true)), .mv (.tmp 2)⟩,
⟨some 24, (some (22, true)), .bin .lss (.tmp 23) (.val (.int .i64 6))⟩,
⟨some 25, none, .pick (.tmp 22) (.tmp 24) (.val (.bool false))⟩,
⟨some 26, none, .mv (.tmp 25)⟩,
⟨some 27, (some (26, true)), .faddr 2 (.tmp 3)⟩,
⟨some 28, (some (26, true)), .ld none (.tmp 27)⟩,
⟨some 29, (some (26, true)), .mv (.tmp 1)⟩,
⟨some 30, (some (26, true)), .iaS 1 (.tmp 28) (.tmp 29)⟩,
⟨some 31, (some (26, true)), .ld none (.tmp 30)⟩,
⟨some 32, (some (26, true)), .mv (.tmp 2)⟩,
⟨some 33, (some (26, true)), .bin .shr (.tmp 31) (.tmp 32)⟩,
⟨some 34, (some (26, true)), .bin .and (.tmp 33) (.val (.int .i64 1))⟩,
⟨some 35, (some (26, true)), .bin .eql (.tmp 34) (.val (.int .i64 1))⟩,
⟨some 36, none, .pick (.tmp 26) (.tmp 35) (.val (.bool false))⟩,
⟨some 6, none, .mv (.tmp 36)⟩] [] [6])
(.ret))⟩
theorem pf106_ok : fnOk Tryz.prog 106 pf106 = true := by kernel_rfl

/-- hinterland/block.end -/
def pf107 : PFn := ⟨26, 2, [.tmp 4], .seq
(.reg [⟨some 4, none, .mv (.val (.bool false))⟩] [] [0, 1])
(.seq
(.reg [⟨some 9, none, .mv (.tmp 0)⟩,
⟨some 10, none, .call 149 .pure [(.tmp 9)]⟩,
⟨some 8, none, .mv (.tmp 10)⟩,
⟨some 11, none, .ext 0 (.tmp 8)⟩,
⟨some 12, none, .ext 1 (.tmp 8)⟩,
⟨some 13, none, .ext 2 (.tmp 8)⟩,
⟨some 5, none, .mv (.tmp 11)⟩,
⟨some 6, none, .mv (.tmp 12)⟩,
⟨some 7, none, .mv (.tmp 13)⟩] [] [1, 5, 6, 7])
(.seq
(.reg [⟨some 14, none, .mv (.tmp 7)⟩,
⟨some 15, none, .bin .eql (.tmp 14) (.val (.int .i64 0))⟩,
⟨some 16, none, .mv (.tmp 15)⟩,
⟨some 17, (some (16, true)), .mv (.tmp 1)⟩,
⟨some 18, (some (16, true)), .mv (.tmp 5)⟩,
⟨some 19, (some (16, true)), .bin .eql (.tmp 17) (.tmp 18)⟩,
⟨some 20, (some (16, true)), .mv (.tmp 19)⟩,
⟨some 21, (some (20, false)), .mv (.tmp 1)⟩,
⟨some 22, (some (20, false)), .mv (.tmp 6)⟩,
⟨some 23, (some (20, false)), .bin .eql (.tmp 21) (.tmp 22)⟩,
⟨some 24, (some (16, true)), .pick (.tmp 20) (.val (.bool true)) (.tmp 23)⟩,
⟨some 25, none, .pick (.tmp 16) (.tmp 24) (.val (.bool false))⟩,
⟨some 4, none, .mv (.tmp 25)⟩] [] [4])
(.ret)))⟩
theorem pf107_ok : fnOk Tryz.prog 107 pf107 = true := by kernel_rfl

/-- cmp.Compare[int] -/
def pf108 : PFn := ⟨20, 2, [.tmp 4], .seq
(.reg [⟨some 4, none, .mv (.val (.int .i64 0))⟩] [] [0, 1])
(.seq
(.reg [⟨some 7, none, .mv (.tmp 0)⟩,
⟨some 8, none, .call 150 .pure [(.tmp 7)]⟩,
⟨some 5, none, .mv (.tmp 8)⟩] [] [0, 1, 5])
(.seq
(.reg [⟨some 9, none, .mv (.tmp 1)⟩,
⟨some 10, none, .call 150 .pure [(.tmp 9)]⟩,
⟨some 6, none, .mv (.tmp 10)⟩] [] [0, 1, 5, 6])
(.seq
(.seq
(.reg [⟨some 11, none, .mv (.tmp 5)⟩] [] [0, 1, 6, 11])
(.cond (.tmp 11)
(.seq
(.seq
(.reg [⟨some 12, none, .mv (.tmp 6)⟩] [] [12])
(.cond (.tmp 12)
(.seq
(.reg [⟨some 4, none, .mv (.val (.int .i64 0))⟩] [] [4])
(.ret))
(.skip)))
(.seq
(.reg [⟨some 4, none, .mv (.val (.int .i64 (-1)))⟩] [] [4])
(.ret)))
(.skip)))
(.seq
(.seq
(.reg [⟨some 13, none, .mv (.tmp 6)⟩] [] [0, 1, 13])
(.cond (.tmp 13)
(.seq
(.reg [⟨some 4, none, .mv (.val (.int .i64 1))⟩] [] [4])
(.ret))
(.skip)))
(.seq
(.seq
(.reg [⟨some 14, none, .mv (.tmp 0)⟩,
⟨some 15, none, .mv (.tmp 1)⟩,
⟨some 16, none, .bin .lss (.tmp 14) (.tmp 15)⟩] [] [0, 1, 16])
(.cond (.tmp 16)
(.seq
(.reg [⟨some 4, none, .mv (.val (.int .i64 (-1)))⟩] [] [4])
(.ret))
(.skip)))
(.seq
(.seq
(.reg [⟨some 17, none, .mv (.tmp 0)⟩,
⟨some 18, none, .mv (.tmp 1)⟩,
⟨some 19, none, .bin .gtr (.tmp 17) (.tmp 18)⟩] [] [19])
(.cond (.tmp 19)
(.seq
(.reg [⟨some 4, none, .mv (.val (.int .i64 1))⟩] [] [4])
(.ret))
(.skip)))
(.seq
(.reg [⟨some 4, none, .mv (.val (.int .i64 0))⟩] [] [4])
(.ret))))))))⟩
theorem pf108_ok : fnOk Tryz.prog 108 pf108 = true := by kernel_rfl

/-- slices.Reverse[[]hinterland/api.Spot,hinterland/api.Spot] -/
def pf109 : PFn := ⟨28, 1, [], .seq
(.reg [⟨some 4, none, .mv (.tmp 0)⟩,
⟨some 5, none, .len (.tmp 4)⟩,
⟨some 6, none, .bin .sub (.tmp 5) (.val (.int .i64 1))⟩,
⟨some 2, none, .mv (.val (.int .i64 0))⟩,
⟨some 3, none, .mv (.tmp 6)⟩] [] [0, 2, 3])
(.blk 0 (.loop (.seq
(.seq
(.reg [⟨some 7, none, .mv (.tmp 2)⟩,
⟨some 8, none, .mv (.tmp 3)⟩,
⟨some 9, none, .bin .lss (.tmp 7) (.tmp 8)⟩] [] [0, 2, 3, 9])
(.cond (.tmp 9)
(.skip)
(.ext 0)))
(.seq
(.blk 1 (.reg [⟨some 14, none, .mv (.tmp 0)⟩,
⟨some 15, none, .mv (.tmp 2)⟩,
⟨some 16, none, .mv (.tmp 0)⟩,
⟨some 17, none, .mv (.tmp 3)⟩,
⟨some 18, none, .mv (.tmp 0)⟩,
⟨some 19, none, .mv (.tmp 3)⟩,
⟨some 20, none, .iaS 3 (.tmp 18) (.tmp 19)⟩,
⟨some 21, none, .ld (some 3) (.tmp 20)⟩,
⟨some 22, none, .mv (.tmp 0)⟩,
⟨some 23, none, .mv (.tmp 2)⟩,
⟨some 24, none, .iaS 3 (.tmp 22) (.tmp 23)⟩,
⟨some 25, none, .ld (some 3) (.tmp 24)⟩,
⟨some 26, none, .iaS 3 (.tmp 14) (.tmp 15)⟩,
⟨none, none, .st 3 (.tmp 26) (.tmp 21)⟩,
⟨some 27, none, .iaS 3 (.tmp 16) (.tmp 17)⟩,
⟨none, none, .st 3 (.tmp 27) (.tmp 25)⟩] [] [0, 2, 3]))
(.reg [⟨some 10, none, .mv (.tmp 2)⟩,
⟨some 11, none, .bin .add (.tmp 10) (.val (.int .i64 1))⟩,
⟨some 12, none, .mv (.tmp 3)⟩,
⟨some 13, none, .bin .sub (.tmp 12) (.val (.int .i64 1))⟩,
⟨some 2, none, .mv (.tmp 11)⟩,
⟨some 3, none, .mv (.tmp 13)⟩] [] [0, 2, 3])))))⟩
theorem pf109_ok : fnOk Tryz.prog 109 pf109 = true := by kernel_rfl

/-- (hinterland/train.field).follows -/
def pf110 : PFn := ⟨20, 3, [.tmp 6], .seq
(.reg [⟨some 3, none, .boxp 90 (.tmp 0)⟩,
⟨some 4, none, .boxp 54 (.tmp 1)⟩,
⟨some 5, none, .boxp 54 (.tmp 2)⟩,
⟨some 6, none, .mv (.val (.bool false))⟩] [] [3, 4, 5])
(.seq
(.reg [⟨some 7, none, .ld (some 9) (.tmp 3)⟩,
⟨some 8, none, .ld (some 3) (.tmp 4)⟩,
⟨some 9, none, .call 136 .pure [(.tmp 7), (.tmp 8)]⟩,
⟨some 10, none, .ld (some 3) (.tmp 5)⟩,
⟨some 11, none, .call 94 .pure [(.tmp 9), (.tmp 10)]⟩,
⟨some 12, none, .mv (.tmp 11)⟩,
⟨some 13, (some (12, false)), .faddr 8 (.tmp 3)⟩,
⟨some 14, (some (12, false)), .ld none (.tmp 13)⟩,
⟨some 15, (some (12, false)), .ld (some 3) (.tmp 4)⟩,
⟨some 16, (some (12, false)), .mlk (some 3) (.list .nil 3 []) false (.tmp 14) (.tmp 15)⟩,
⟨some 17, (some (12, false)), .ld (some 3) (.tmp 5)⟩,
⟨some 18, (some (12, false)), .call 94 .pure [(.tmp 16), (.tmp 17)]⟩,
⟨some 19, none, .pick (.tmp 12) (.val (.bool true)) (.tmp 18)⟩,
⟨some 6, none, .mv (.tmp 19)⟩] [] [6])
(.ret))⟩
theorem pf110_ok : fnOk Tryz.prog 110 pf110 = true := by kernel_rfl

/-- slices.IndexFunc[[]hinterland/api.Spot,hinterland/api.Spot] -/
def pf116 : PFn := ⟨19, 2, [.tmp 4], .seq
(.reg [⟨some 4, none, .mv (.val (.int .i64 0))⟩] [] [0, 1])
(.seq
(.seq
(.reg [⟨some 6, none, .mv (.tmp 0)⟩,
⟨some 7, none, .len (.tmp 6)⟩,
⟨some 8, none, .mv (.val (.int .i64 0))⟩] [] [0, 1, 7, 8])
(.blk 0 (.loop (.seq
(.reg [⟨some 9, none, .bin .lss (.tmp 8) (.tmp 7)⟩] [] [0, 1, 7, 8, 9])
(.seq
(.cond (.tmp 9)
(.skip)
(.ext 0))
(.seq
(.blk 1 (.seq
(.reg [⟨some 10, none, .mv (.tmp 8)⟩,
⟨some 5, none, .mv (.tmp 10)⟩] [] [0, 1, 5, 7, 8])
(.seq
(.reg [⟨some 11, none, .mv (.tmp 1)⟩,
⟨some 12, none, .mv (.tmp 0)⟩,
⟨some 13, none, .mv (.tmp 5)⟩,
⟨some 14, none, .iaS 3 (.tmp 12) (.tmp 13)⟩,
⟨some 15, none, .ld (some 3) (.tmp 14)⟩,
⟨some 16, none, .callv (.tmp 11) .pure [(.tmp 15)]⟩] [] [0, 1, 5, 7, 8, 16])
(.cond (.tmp 16)
(.seq
(.reg [⟨some 17, none, .mv (.tmp 5)⟩,
⟨some 4, none, .mv (.tmp 17)⟩] [] [4])
(.ret))
(.skip)))))
(.reg [⟨some 18, none, .bin .add (.tmp 8) (.val (.int .i64 1))⟩,
⟨some 8, none, .mv (.tmp 18)⟩] [] [0, 1, 7, 8])))))))
(.seq
(.reg [⟨some 4, none, .mv (.val (.int .i64 (-1)))⟩] [] [4])
(.ret)))⟩
theorem pf116_ok : fnOk Tryz.prog 116 pf116 = true := by kernel_rfl

/-- hinterland/train.clash -/
def pf117 : PFn := ⟨39, 2, [.tmp 4], .seq
(.reg [⟨some 4, none, .mv (.val (.bool false))⟩] [] [0, 1])
(.seq
(.reg [⟨some 5, none, .mv (.tmp 0)⟩,
⟨some 6, none, .mv (.tmp 1)⟩,
⟨some 7, none, .bin .eql (.tmp 5) (.tmp 6)⟩,
⟨some 8, none, .mv (.tmp 7)⟩,
⟨some 9, (some (8, false)), .mv (.tmp 0)⟩,
⟨some 10, (some (8, false)), .mv (.tmp 1)⟩,
⟨some 11, (some (8, false)), .bin .add (.tmp 9) (.tmp 10)⟩,
⟨some 12, (some (8, false)), .bin .eql (.tmp 11) (.val (.int .i64 6))⟩,
⟨some 13, (some (8, false)), .mv (.tmp 12)⟩,
⟨some 14, (some (13, true)), .mv (.tmp 0)⟩,
⟨some 15, (some (13, true)), .mv (.tmp 1)⟩,
⟨some 16, (some (13, true)), .bin .neq (.tmp 14) (.tmp 15)⟩,
⟨some 17, (some (8, false)), .pick (.tmp 13) (.tmp 16) (.val (.bool false))⟩,
⟨some 18, (some (8, false)), .mv (.tmp 17)⟩,
⟨some 19, (some (18, true)), .mv (.tmp 0)⟩,
⟨some 20, (some (18, true)), .bin .gtr (.tmp 19) (.val (.int .i64 1))⟩,
⟨some 21, (some (8, false)), .pick (.tmp 18) (.tmp 20) (.val (.bool false))⟩,
⟨some 22, (some (8, false)), .mv (.tmp 21)⟩,
⟨some 23, (some (22, true)), .mv (.tmp 1)⟩,
⟨some 24, (some (22, true)), .bin .gtr (.tmp 23) (.val (.int .i64 1))⟩,
⟨some 25, (some (8, false)), .pick (.tmp 22) (.tmp 24) (.val (.bool false))⟩,
⟨some 26, (some (8, false)), .mv (.tmp 25)⟩,
⟨some 27, (some (26, false)), .mv (.tmp 0)⟩,
⟨some 28, (some (26, false)), .mv (.tmp 1)⟩,
⟨some 29, (some (26, false)), .bin .add (.tmp 27) (.tmp 28)⟩,
⟨some 30, (some (26, false)), .bin .eql (.tmp 29) (.val (.int .i64 8))⟩,
⟨some 31, (some (26, false)), .mv (.tmp 30)⟩,
⟨some 32, (some (31, true)), .mv (.tmp 0)⟩,
⟨some 33, (some (31, true)), .mv (.tmp 1)⟩,
⟨some 34, (some (31, true)), .bin .neq (.tmp 32) (.tmp 33)⟩,
⟨some 35, (some (26, false)), .pick (.tmp 31) (.tmp 34) (.val (.bool false))⟩,
⟨some 36, (some (8, false)), .pick (.tmp 26) (.val (.bool true)) (.tmp 35)⟩,
⟨some 37, (some (8, false)), .un .not (.tmp 36)⟩,
⟨some 38, none, .pick (.tmp 8) (.val (.bool true)) (.tmp 37)⟩,
⟨some 4, none, .mv (.tmp 38)⟩] [] [4])
(.ret))⟩
theorem pf117_ok : fnOk Tryz.prog 117 pf117 = true := by kernel_rfl

/-- slices.Clone[[]int,int] -/
def pf119 : PFn := ⟨8, 1, [.tmp 2], .seq
(.reg [⟨some 2, none, .mv (.val (.list .nil 1 []))⟩] [] [0])
(.seq
(.seq
(.reg [⟨some 3, none, .mv (.tmp 0)⟩,
⟨some 4, none, .eqn false (.tmp 3) (.val (.list .nil 1 []))⟩] [] [0, 4])
(.cond (.tmp 4)
(.seq
(.reg [⟨some 2, none, .mv (.val (.list .nil 1 []))⟩] [] [2])
(.ret))
(.skip)))
(.seq
(.reg [⟨some 5, none, .bsl 0 1 [(.int .i64 0)] []⟩,
⟨some 6, none, .mv (.tmp 0)⟩,
⟨some 7, none, .app 3 1 8 (.tmp 5) (.tmp 6)⟩,
⟨some 2, none, .mv (.tmp 7)⟩] [] [2])
(.ret)))⟩
theorem pf119_ok : fnOk Tryz.prog 119 pf119 = true := by kernel_rfl

/-- slices.Clone[[]bool,bool] -/
def pf120 : PFn := ⟨8, 1, [.tmp 2], .seq
(.reg [⟨some 2, none, .mv (.val (.list .nil 1 []))⟩] [] [0])
(.seq
(.seq
(.reg [⟨some 3, none, .mv (.tmp 0)⟩,
⟨some 4, none, .eqn false (.tmp 3) (.val (.list .nil 1 []))⟩] [] [0, 4])
(.cond (.tmp 4)
(.seq
(.reg [⟨some 2, none, .mv (.val (.list .nil 1 []))⟩] [] [2])
(.ret))
(.skip)))
(.seq
(.reg [⟨some 5, none, .bsl 0 1 [(.bool false)] []⟩,
⟨some 6, none, .mv (.tmp 0)⟩,
⟨some 7, none, .app 4 1 1 (.tmp 5) (.tmp 6)⟩,
⟨some 2, none, .mv (.tmp 7)⟩] [] [2])
(.ret)))⟩
theorem pf120_ok : fnOk Tryz.prog 120 pf120 = true := by kernel_rfl

/-- slices.Clone[[]hinterland/api.Signal,hinterland/api.Signal] -/
def pf121 : PFn := ⟨8, 1, [.tmp 2], .seq
(.reg [⟨some 2, none, .mv (.val (.list .nil 4 []))⟩] [] [0])
(.seq
(.seq
(.reg [⟨some 3, none, .mv (.tmp 0)⟩,
⟨some 4, none, .eqn false (.tmp 3) (.val (.list .nil 1 []))⟩] [] [0, 4])
(.cond (.tmp 4)
(.seq
(.reg [⟨some 2, none, .mv (.val (.list .nil 4 []))⟩] [] [2])
(.ret))
(.skip)))
(.seq
(.reg [⟨some 5, none, .bsl 0 4 [(.int .i64 0), (.int .i64 0), (.int .i64 0), (.int .i64 0)] []⟩,
⟨some 6, none, .mv (.tmp 0)⟩,
⟨some 7, none, .app 75 4 32 (.tmp 5) (.tmp 6)⟩,
⟨some 2, none, .mv (.tmp 7)⟩] [] [2])
(.ret)))⟩
theorem pf121_ok : fnOk Tryz.prog 121 pf121 = true := by kernel_rfl

/-- slices.Clone[[]hinterland/api.Joint,hinterland/api.Joint] -/
def pf122 : PFn := ⟨8, 1, [.tmp 2], .seq
(.reg [⟨some 2, none, .mv (.val (.list .nil 6 []))⟩] [] [0])
(.seq
(.seq
(.reg [⟨some 3, none, .mv (.tmp 0)⟩,
⟨some 4, none, .eqn false (.tmp 3) (.val (.list .nil 1 []))⟩] [] [0, 4])
(.cond (.tmp 4)
(.seq
(.reg [⟨some 2, none, .mv (.val (.list .nil 6 []))⟩] [] [2])
(.ret))
(.skip)))
(.seq
(.reg [⟨some 5, none, .bsl 0 6 [(.int .i64 0), (.int .i64 0), (.int .i64 0), (.int .i64 0), (.int .i64 0), (.int .i64 0)] []⟩,
⟨some 6, none, .mv (.tmp 0)⟩,
⟨some 7, none, .app 78 6 48 (.tmp 5) (.tmp 6)⟩,
⟨some 2, none, .mv (.tmp 7)⟩] [] [2])
(.ret)))⟩
theorem pf122_ok : fnOk Tryz.prog 122 pf122 = true := by kernel_rfl

/-- slices.Clone[[]hinterland/api.Train,hinterland/api.Train] -/
def pf123 : PFn := ⟨8, 1, [.tmp 2], .seq
(.reg [⟨some 2, none, .mv (.val (.list .nil 5 []))⟩] [] [0])
(.seq
(.seq
(.reg [⟨some 3, none, .mv (.tmp 0)⟩,
⟨some 4, none, .eqn false (.tmp 3) (.val (.list .nil 1 []))⟩] [] [0, 4])
(.cond (.tmp 4)
(.seq
(.reg [⟨some 2, none, .mv (.val (.list .nil 5 []))⟩] [] [2])
(.ret))
(.skip)))
(.seq
(.reg [⟨some 5, none, .bsl 0 5 [(.int .i64 0), (.int .i64 0), (.int .i64 0), (.list .nil 3 []), (.list .nil 3 [])] []⟩,
⟨some 6, none, .mv (.tmp 0)⟩,
⟨some 7, none, .app 68 5 72 (.tmp 5) (.tmp 6)⟩,
⟨some 2, none, .mv (.tmp 7)⟩] [] [2])
(.ret)))⟩
theorem pf123_ok : fnOk Tryz.prog 123 pf123 = true := by kernel_rfl

/-- hinterland/train.own -/
def pf124 : PFn := ⟨26, 3, [.tmp 6], .seq
(.reg [⟨some 3, none, .boxp 68 (.tmp 0)⟩,
⟨some 4, none, .boxp 54 (.tmp 1)⟩,
⟨some 6, none, .mv (.val (.bool false))⟩] [] [2, 3, 4])
(.seq
(.reg [⟨some 8, none, .mkf (.func 153) [] [(.tmp 4)]⟩,
⟨some 7, none, .mv (.tmp 8)⟩] [] [2, 3, 7])
(.seq
(.reg [⟨some 9, none, .faddr 3 (.tmp 3)⟩,
⟨some 10, none, .ld none (.tmp 9)⟩,
⟨some 11, none, .faddr 3 (.tmp 3)⟩,
⟨some 12, none, .ld none (.tmp 11)⟩,
⟨some 13, none, .len (.tmp 12)⟩,
⟨some 14, none, .faddr 0 (.tmp 3)⟩,
⟨some 15, none, .ld none (.tmp 14)⟩,
⟨some 16, none, .bin .sub (.tmp 15) (.val (.int .i64 1))⟩,
⟨some 17, none, .mn (.tmp 13) [(.tmp 16)]⟩,
⟨some 18, none, .slc 3 (.tmp 10) none (some (.tmp 17)) none⟩,
⟨some 19, none, .mv (.tmp 7)⟩,
⟨some 20, none, .call 70 .pure [(.tmp 18), (.tmp 19)]⟩,
⟨some 21, none, .mv (.tmp 20)⟩,
⟨some 22, (some (21, false)), .mv (.tmp 2)⟩,
⟨some 23, (some (21, false)), .mv (.tmp 7)⟩,
⟨some 24, (some (21, false)), .call 70 .pure [(.tmp 22), (.tmp 23)]⟩,
⟨some 25, none, .pick (.tmp 21) (.val (.bool true)) (.tmp 24)⟩,
⟨some 6, none, .mv (.tmp 25)⟩] [] [6])
(.ret)))⟩
theorem pf124_ok : fnOk Tryz.prog 124 pf124 = true := by kernel_rfl

/-- (hinterland/train.search).enters -/
def pf125 : PFn := ⟨140, 3, [.tmp 6, .tmp 7], .seq
(.reg [⟨some 3, none, .boxp 117 (.tmp 0)⟩,
⟨some 5, none, .boxp 54 (.tmp 2)⟩,
⟨some 6, none, .mv (.val (.list .nil 3 []))⟩,
⟨some 7, none, .mv (.val (.bool false))⟩] [] [1, 3, 5])
(.seq
(.reg [⟨some 20, none, .faddr 0 (.tmp 3)⟩,
⟨some 21, none, .faddr 0 (.tmp 20)⟩,
⟨some 22, none, .ld (some 7) (.tmp 21)⟩,
⟨some 8, none, .zer 30 (.agg [(.int .i64 0), (.int .i64 0), (.list .nil 1 []), (.list .nil 1 []), (.list .nil 4 []), (.list .nil 6 []), (.list .nil 5 [])])⟩,
⟨none, none, .st 7 (.tmp 8) (.tmp 22)⟩] [] [1, 3, 5, 8])
(.seq
(.reg [⟨some 23, none, .faddr 6 (.tmp 8)⟩,
⟨some 24, none, .ld none (.tmp 23)⟩,
⟨some 25, none, .mv (.tmp 1)⟩,
⟨some 26, none, .iaS 5 (.tmp 24) (.tmp 25)⟩,
⟨some 27, none, .faddr 3 (.tmp 26)⟩,
⟨some 28, none, .ld none (.tmp 27)⟩,
⟨some 29, none, .iaS 3 (.tmp 28) (.val (.int .i64 0))⟩,
⟨some 30, none, .ld (some 3) (.tmp 29)⟩,
⟨some 9, none, .zer 54 (.agg [(.int .i64 0), (.int .i64 0), (.int .i64 0)])⟩,
⟨none, none, .st 3 (.tmp 9) (.tmp 30)⟩] [] [1, 3, 5, 8, 9])
(.seq
(.reg [⟨some 31, none, .ld (some 7) (.tmp 8)⟩,
⟨some 32, none, .call 97 .pure [(.tmp 31)]⟩,
⟨some 10, none, .mv (.tmp 32)⟩] [] [1, 3, 5, 8, 9, 10])
(.seq
(.reg [⟨some 33, none, .faddr 0 (.tmp 3)⟩,
⟨some 34, none, .ld (some 9) (.tmp 33)⟩,
⟨some 35, none, .mv (.tmp 1)⟩,
⟨some 36, none, .mv (.tmp 10)⟩,
⟨some 37, none, .call 98 .pure [(.tmp 34), (.tmp 35), (.tmp 36)]⟩,
⟨some 11, none, .mv (.tmp 37)⟩] [] [1, 3, 5, 8, 9, 10, 11])
(.seq
(.reg [⟨some 39, none, .faddr 0 (.tmp 3)⟩,
⟨some 40, none, .faddr 7 (.tmp 39)⟩,
⟨some 41, none, .ld none (.tmp 40)⟩,
⟨some 42, none, .ld (some 3) (.tmp 9)⟩,
⟨some 43, none, .mlk (some 3) (.int .i64 0) true (.tmp 41) (.tmp 42)⟩,
⟨some 38, none, .mv (.tmp 43)⟩,
⟨some 44, none, .ext 0 (.tmp 38)⟩,
⟨some 45, none, .ext 1 (.tmp 38)⟩,
⟨some 12, none, .mv (.tmp 44)⟩,
⟨some 13, none, .mv (.tmp 45)⟩] [] [1, 3, 5, 8, 9, 10, 11, 12, 13])
(.seq
(.blk 0 (.seq
(.reg [⟨some 47, none, .mv (.tmp 13)⟩,
⟨some 48, none, .un .not (.tmp 47)⟩,
⟨some 46, none, .mv (.tmp 48)⟩] [] [1, 3, 5, 8, 9, 10, 11, 12, 46])
(.cond (.tmp 46)
(.seq
(.reg [⟨some 49, none, .mv (.tmp 10)⟩,
⟨some 50, none, .faddr 0 (.tmp 9)⟩,
⟨some 51, none, .ld none (.tmp 50)⟩,
⟨some 52, none, .faddr 1 (.tmp 9)⟩,
⟨some 53, none, .ld none (.tmp 52)⟩,
⟨some 54, none, .bld [(.int .i64 0), (.int .i64 0)] [(0, 1, (.tmp 51)), (1, 1, (.tmp 53))]⟩,
⟨some 55, none, .mlk (some 2) (.int .i64 0) false (.tmp 49) (.tmp 54)⟩,
⟨some 56, none, .mv (.tmp 10)⟩,
⟨some 57, none, .faddr 0 (.tmp 5)⟩,
⟨some 58, none, .ld none (.tmp 57)⟩,
⟨some 59, none, .faddr 1 (.tmp 5)⟩,
⟨some 60, none, .ld none (.tmp 59)⟩,
⟨some 61, none, .bld [(.int .i64 0), (.int .i64 0)] [(0, 1, (.tmp 58)), (1, 1, (.tmp 60))]⟩,
⟨some 62, none, .mlk (some 2) (.int .i64 0) false (.tmp 56) (.tmp 61)⟩,
⟨some 14, none, .mv (.tmp 55)⟩,
⟨some 15, none, .mv (.tmp 62)⟩] [] [3, 5, 11, 14, 15])
(.seq
(.reg [⟨some 63, none, .faddr 9 (.tmp 3)⟩,
⟨some 64, none, .ld none (.tmp 63)⟩,
⟨some 65, none, .ld (some 3) (.tmp 5)⟩,
⟨some 66, none, .call 72 .pure [(.tmp 64), (.tmp 65)]⟩,
⟨some 67, none, .un .not (.tmp 66)⟩,
⟨some 68, none, .mv (.tmp 67)⟩,
⟨some 69, (some (68, true)), .mv (.tmp 14)⟩,
⟨some 70, (some (68, true)), .mv (.tmp 15)⟩,
⟨some 71, (some (68, true)), .bin .eql (.tmp 69) (.tmp 70)⟩,
⟨some 72, (some (68, true)), .mv (.tmp 71)⟩,
⟨some 73, (some (72, false)), .mv (.tmp 11)⟩,
⟨some 74, (some (72, false)), .mv (.tmp 15)⟩,
⟨some 75, (some (72, false)), .call 79 .pure [(.tmp 73), (.tmp 74)]⟩,
⟨some 76, (some (72, false)), .un .not (.tmp 75)⟩,
⟨some 77, (some (68, true)), .pick (.tmp 72) (.val (.bool true)) (.tmp 76)⟩,
⟨some 78, none, .pick (.tmp 68) (.tmp 77) (.val (.bool false))⟩,
⟨some 6, none, .mv (.val (.list .nil 3 []))⟩,
⟨some 7, none, .mv (.tmp 78)⟩] [] [6, 7])
(.ret)))
(.seq
(.reg [⟨some 80, none, .mv (.tmp 12)⟩,
⟨some 81, none, .bin .geq (.tmp 80) (.val (.int .i64 4))⟩,
⟨some 79, none, .mv (.tmp 81)⟩] [] [1, 3, 5, 8, 9, 11, 79])
(.cond (.tmp 79)
(.seq
(.reg [⟨some 82, none, .ld (some 12) (.tmp 3)⟩,
⟨some 83, none, .faddr 6 (.tmp 8)⟩,
⟨some 84, none, .ld none (.tmp 83)⟩,
⟨some 85, none, .mv (.tmp 1)⟩,
⟨some 86, none, .iaS 5 (.tmp 84) (.tmp 85)⟩,
⟨some 87, none, .ld (some 5) (.tmp 86)⟩,
⟨some 88, none, .ld (some 3) (.tmp 5)⟩,
⟨some 89, none, .call 95 .pure [(.tmp 82), (.tmp 87), (.tmp 88)]⟩,
⟨some 90, none, .ext 0 (.tmp 89)⟩,
⟨some 91, none, .ext 1 (.tmp 89)⟩,
⟨some 6, none, .mv (.tmp 90)⟩,
⟨some 7, none, .mv (.tmp 91)⟩] [] [6, 7])
(.ret))
(.skip))))))
(.seq
(.reg [⟨some 93, none, .faddr 0 (.tmp 8)⟩,
⟨some 94, none, .ld (some 4) (.tmp 93)⟩,
⟨some 95, none, .faddr 4 (.tmp 8)⟩,
⟨some 96, none, .ld none (.tmp 95)⟩,
⟨some 97, none, .mv (.tmp 11)⟩,
⟨some 98, none, .call 154 .pure [(.tmp 94), (.tmp 96), (.tmp 97)]⟩,
⟨some 92, none, .mv (.tmp 98)⟩,
⟨some 99, none, .ext 0 (.tmp 92)⟩,
⟨some 100, none, .ext 1 (.tmp 92)⟩,
⟨some 16, none, .mv (.tmp 99)⟩,
⟨some 17, none, .mv (.tmp 100)⟩] [] [3, 5, 8, 9, 16])
(.seq
(.seq
(.reg [⟨some 101, none, .faddr 4 (.tmp 8)⟩,
⟨some 102, none, .ld none (.tmp 101)⟩,
⟨some 103, none, .len (.tmp 102)⟩,
⟨some 104, none, .mv (.val (.int .i64 0))⟩] [] [3, 5, 9, 16, 102, 103, 104])
(.blk 1 (.loop (.trim (.seq
(.reg [⟨some 105, none, .bin .lss (.tmp 104) (.tmp 103)⟩] [] [3, 5, 9, 16, 102, 103, 104, 105])
(.seq
(.cond (.tmp 105)
(.skip)
(.ext 1))
(.seq
(.blk 2 (.seq
(.reg [⟨some 106, none, .mv (.tmp 104)⟩,
⟨some 107, none, .iaS 4 (.tmp 102) (.tmp 104)⟩,
⟨some 108, none, .ld (some 4) (.tmp 107)⟩,
⟨some 19, none, .zer 75 (.agg [(.int .i64 0), (.int .i64 0), (.int .i64 0), (.int .i64 0)])⟩,
⟨some 18, none, .mv (.tmp 106)⟩,
⟨none, none, .st 4 (.tmp 19) (.tmp 108)⟩] [] [3, 5, 9, 16, 18, 19, 102, 103, 104])
(.seq
(.reg [⟨some 109, none, .faddr 0 (.tmp 19)⟩,
⟨some 110, none, .ld none (.tmp 109)⟩,
⟨some 111, none, .faddr 0 (.tmp 9)⟩,
⟨some 112, none, .ld none (.tmp 111)⟩,
⟨some 113, none, .bin .eql (.tmp 110) (.tmp 112)⟩,
⟨some 114, none, .mv (.tmp 113)⟩,
⟨some 115, (some (114, true)), .faddr 1 (.tmp 19)⟩,
⟨some 116, (some (114, true)), .ld none (.tmp 115)⟩,
⟨some 117, (some (114, true)), .faddr 1 (.tmp 9)⟩,
⟨some 118, (some (114, true)), .ld none (.tmp 117)⟩,
⟨some 119, (some (114, true)), .bin .eql (.tmp 116) (.tmp 118)⟩,
⟨some 120, none, .pick (.tmp 114) (.tmp 119) (.val (.bool false))⟩,
⟨some 121, none, .mv (.tmp 120)⟩,
⟨some 122, (some (121, true)), .faddr 2 (.tmp 19)⟩,
⟨some 123, (some (121, true)), .ld none (.tmp 122)⟩,
⟨some 124, (some (121, true)), .faddr 2 (.tmp 9)⟩,
⟨some 125, (some (121, true)), .ld none (.tmp 124)⟩,
⟨some 126, (some (121, true)), .bin .eql (.tmp 123) (.tmp 125)⟩,
⟨some 127, none, .pick (.tmp 121) (.tmp 126) (.val (.bool false))⟩] [] [3, 5, 9, 16, 18, 102, 103, 104, 127])
(.cond (.tmp 127)
(.seq
(.reg [⟨some 128, none, .mv (.tmp 16)⟩,
⟨some 129, none, .mv (.tmp 18)⟩,
⟨some 130, none, .iaS 1 (.tmp 128) (.tmp 129)⟩,
⟨some 131, none, .ld none (.tmp 130)⟩,
⟨some 132, none, .mv (.tmp 131)⟩,
⟨some 133, (some (132, true)), .faddr 9 (.tmp 3)⟩,
⟨some 134, (some (132, true)), .ld none (.tmp 133)⟩,
⟨some 135, (some (132, true)), .ld (some 3) (.tmp 5)⟩,
⟨some 136, (some (132, true)), .call 72 .pure [(.tmp 134), (.tmp 135)]⟩,
⟨some 137, (some (132, true)), .un .not (.tmp 136)⟩,
⟨some 138, none, .pick (.tmp 132) (.tmp 137) (.val (.bool false))⟩,
⟨some 6, none, .mv (.val (.list .nil 3 []))⟩,
⟨some 7, none, .mv (.tmp 138)⟩] [] [6, 7])
(.ret))
(.skip)))))
(.reg [⟨some 139, none, .bin .add (.tmp 104) (.val (.int .i64 1))⟩,
⟨some 104, none, .mv (.tmp 139)⟩] [] [3, 5, 9, 16, 102, 103, 104]))))))))
(.seq
(.reg [⟨some 6, none, .mv (.val (.list .nil 3 []))⟩,
⟨some 7, none, .mv (.val (.bool false))⟩] [] [6, 7])
(.ret))))))))))⟩
theorem pf125_ok : fnOk Tryz.prog 125 pf125 = true := by kernel_rfl

/-- slices.Index[[]int,int] -/
def pf126 : PFn := ⟨19, 2, [.tmp 4], .seq
(.reg [⟨some 4, none, .mv (.val (.int .i64 0))⟩] [] [0, 1])
(.seq
(.seq
(.reg [⟨some 6, none, .mv (.tmp 0)⟩,
⟨some 7, none, .len (.tmp 6)⟩,
⟨some 8, none, .mv (.val (.int .i64 0))⟩] [] [0, 1, 7, 8])
(.blk 0 (.loop (.seq
(.reg [⟨some 9, none, .bin .lss (.tmp 8) (.tmp 7)⟩] [] [0, 1, 7, 8, 9])
(.seq
(.cond (.tmp 9)
(.skip)
(.ext 0))
(.seq
(.blk 1 (.seq
(.reg [⟨some 10, none, .mv (.tmp 8)⟩,
⟨some 5, none, .mv (.tmp 10)⟩] [] [0, 1, 5, 7, 8])
(.seq
(.reg [⟨some 11, none, .mv (.tmp 1)⟩,
⟨some 12, none, .mv (.tmp 0)⟩,
⟨some 13, none, .mv (.tmp 5)⟩,
⟨some 14, none, .iaS 1 (.tmp 12) (.tmp 13)⟩,
⟨some 15, none, .ld none (.tmp 14)⟩,
⟨some 16, none, .bin .eql (.tmp 11) (.tmp 15)⟩] [] [0, 1, 5, 7, 8, 16])
(.cond (.tmp 16)
(.seq
(.reg [⟨some 17, none, .mv (.tmp 5)⟩,
⟨some 4, none, .mv (.tmp 17)⟩] [] [4])
(.ret))
(.skip)))))
(.reg [⟨some 18, none, .bin .add (.tmp 8) (.val (.int .i64 1))⟩,
⟨some 8, none, .mv (.tmp 18)⟩] [] [0, 1, 7, 8])))))))
(.seq
(.reg [⟨some 4, none, .mv (.val (.int .i64 (-1)))⟩] [] [4])
(.ret)))⟩
theorem pf126_ok : fnOk Tryz.prog 126 pf126 = true := by kernel_rfl

/-- (hinterland/train.search).spread -/
def pf129 : PFn := ⟨117, 3, [], .seq
(.reg [⟨some 3, none, .boxm 117 (.tmp 0)⟩] [] [1, 2, 3])
(.seq
(.reg [⟨some 16, none, .mkm (some 3)⟩,
⟨some 6, none, .mv (.tmp 16)⟩] [] [1, 2, 3, 6])
(.blk 0 (.loop (.trim (.seq
(.seq
(.reg [⟨some 17, none, .mv (.tmp 2)⟩,
⟨some 18, none, .len (.tmp 17)⟩,
⟨some 19, none, .bin .gtr (.tmp 18) (.val (.int .i64 0))⟩] [] [1, 2, 3, 6, 19])
(.cond (.tmp 19)
(.skip)
(.ext 0)))
(.blk 1 (.seq
(.reg [⟨some 7, none, .mv (.val (.int .i64 0))⟩] [] [1, 2, 3, 6, 7])
(.seq
(.seq
(.reg [⟨some 20, none, .mv (.tmp 2)⟩,
⟨some 21, none, .len (.tmp 20)⟩,
⟨some 22, none, .mv (.val (.int .i64 0))⟩] [] [1, 2, 3, 6, 7, 20, 21, 22])
(.blk 2 (.loop (.trim (.seq
(.reg [⟨some 23, none, .bin .lss (.tmp 22) (.tmp 21)⟩] [] [1, 2, 3, 6, 7, 20, 21, 22, 23])
(.seq
(.cond (.tmp 23)
(.skip)
(.ext 2))
(.seq
(.blk 3 (.seq
(.reg [⟨some 24, none, .mv (.tmp 22)⟩,
⟨some 25, none, .iaS 3 (.tmp 20) (.tmp 22)⟩,
⟨some 26, none, .ld (some 3) (.tmp 25)⟩,
⟨some 9, none, .zer 54 (.agg [(.int .i64 0), (.int .i64 0), (.int .i64 0)])⟩,
⟨some 8, none, .mv (.tmp 24)⟩,
⟨none, none, .st 3 (.tmp 9) (.tmp 26)⟩] [] [1, 2, 3, 6, 7, 8, 9, 20, 21, 22])
(.seq
(.reg [⟨some 27, none, .faddr 11 (.tmp 3)⟩,
⟨some 28, none, .ld none (.tmp 27)⟩,
⟨some 29, none, .ld (some 3) (.tmp 9)⟩,
⟨some 30, none, .mlk (some 3) (.agg [(.int .i64 0), (.int .i64 0)]) false (.tmp 28) (.tmp 29)⟩,
⟨some 31, none, .faddr 11 (.tmp 3)⟩,
⟨some 32, none, .ld none (.tmp 31)⟩,
⟨some 33, none, .mv (.tmp 2)⟩,
⟨some 34, none, .mv (.tmp 7)⟩,
⟨some 35, none, .iaS 3 (.tmp 33) (.tmp 34)⟩,
⟨some 36, none, .ld (some 3) (.tmp 35)⟩,
⟨some 37, none, .mlk (some 3) (.agg [(.int .i64 0), (.int .i64 0)]) false (.tmp 32) (.tmp 36)⟩,
⟨some 38, none, .call 131 .pure [(.tmp 30), (.tmp 37)]⟩] [] [1, 2, 3, 6, 7, 8, 20, 21, 22, 38])
(.cond (.tmp 38)
(.reg [⟨some 39, none, .mv (.tmp 8)⟩,
⟨some 7, none, .mv (.tmp 39)⟩] [] [1, 2, 3, 6, 7, 20, 21, 22])
(.skip)))))
(.reg [⟨some 40, none, .bin .add (.tmp 22) (.val (.int .i64 1))⟩,
⟨some 22, none, .mv (.tmp 40)⟩] [] [1, 2, 3, 6, 7, 20, 21, 22]))))))))
(.seq
(.reg [⟨some 41, none, .mv (.tmp 2)⟩,
⟨some 42, none, .mv (.tmp 7)⟩,
⟨some 43, none, .iaS 3 (.tmp 41) (.tmp 42)⟩,
⟨some 44, none, .ld (some 3) (.tmp 43)⟩,
⟨some 10, none, .zer 54 (.agg [(.int .i64 0), (.int .i64 0), (.int .i64 0)])⟩,
⟨none, none, .st 3 (.tmp 10) (.tmp 44)⟩] [] [1, 2, 3, 6, 7, 10])
(.seq
(.reg [⟨some 45, none, .mv (.tmp 2)⟩,
⟨some 46, none, .mv (.tmp 7)⟩,
⟨some 47, none, .mv (.tmp 2)⟩,
⟨some 48, none, .mv (.tmp 2)⟩,
⟨some 49, none, .len (.tmp 48)⟩,
⟨some 50, none, .bin .sub (.tmp 49) (.val (.int .i64 1))⟩,
⟨some 51, none, .iaS 3 (.tmp 47) (.tmp 50)⟩,
⟨some 52, none, .ld (some 3) (.tmp 51)⟩,
⟨some 53, none, .iaS 3 (.tmp 45) (.tmp 46)⟩,
⟨none, none, .st 3 (.tmp 53) (.tmp 52)⟩] [] [1, 2, 3, 6, 10])
(.seq
(.reg [⟨some 54, none, .mv (.tmp 2)⟩,
⟨some 55, none, .mv (.tmp 2)⟩,
⟨some 56, none, .len (.tmp 55)⟩,
⟨some 57, none, .bin .sub (.tmp 56) (.val (.int .i64 1))⟩,
⟨some 58, none, .slc 3 (.tmp 54) none (some (.tmp 57)) none⟩,
⟨some 2, none, .mv (.tmp 58)⟩] [] [1, 2, 3, 6, 10])
(.seq
(.seq
(.reg [⟨some 59, none, .mv (.tmp 6)⟩,
⟨some 60, none, .ld (some 3) (.tmp 10)⟩,
⟨some 61, none, .mlk (some 3) (.bool false) false (.tmp 59) (.tmp 60)⟩] [] [1, 2, 3, 6, 10, 61])
(.cond (.tmp 61)
(.ext 1)
(.skip)))
(.seq
(.reg [⟨some 62, none, .mv (.tmp 6)⟩,
⟨some 63, none, .ld (some 3) (.tmp 10)⟩,
⟨none, none, .mup (some 3) (.tmp 62) (.tmp 63) (.val (.bool true))⟩] [] [1, 2, 3, 6, 10])
(.seq
(.reg [⟨some 64, none, .faddr 11 (.tmp 3)⟩,
⟨some 65, none, .ld none (.tmp 64)⟩,
⟨some 66, none, .ld (some 3) (.tmp 10)⟩,
⟨some 67, none, .mlk (some 3) (.agg [(.int .i64 0), (.int .i64 0)]) false (.tmp 65) (.tmp 66)⟩,
⟨some 68, none, .fld none 0 (.tmp 67)⟩,
⟨some 69, none, .ld (some 12) (.tmp 3)⟩,
⟨some 70, none, .ld (some 3) (.tmp 10)⟩,
⟨some 71, none, .call 130 .pure [(.tmp 69), (.tmp 70)]⟩,
⟨some 72, none, .bin .add (.tmp 68) (.tmp 71)⟩,
⟨some 73, none, .faddr 11 (.tmp 3)⟩,
⟨some 74, none, .ld none (.tmp 73)⟩,
⟨some 75, none, .ld (some 3) (.tmp 10)⟩,
⟨some 76, none, .mlk (some 3) (.agg [(.int .i64 0), (.int .i64 0)]) false (.tmp 74) (.tmp 75)⟩,
⟨some 77, none, .fld none 1 (.tmp 76)⟩,
⟨some 78, none, .bin .add (.tmp 77) (.val (.int .i64 1))⟩,
⟨some 79, none, .bld [(.int .i64 0), (.int .i64 0)] [(0, 1, (.tmp 72)), (1, 1, (.tmp 78))]⟩,
⟨some 11, none, .zer 162 (.agg [(.int .i64 0), (.int .i64 0)])⟩,
⟨none, none, .st 2 (.tmp 11) (.tmp 79)⟩] [(1, 16), (1, 17), (2, 16), (2, 17), (3, 16), (3, 17), (5, 16), (5, 17), (6, 16), (6, 17), (7, 16), (7, 17), (10, 16), (10, 17), (11, 16), (11, 17), (12, 16), (12, 17)] [1, 2, 3, 6, 10, 11])
(.seq
(.reg [⟨some 80, none, .mv (.tmp 1)⟩,
⟨some 81, none, .ld (some 3) (.tmp 10)⟩,
⟨some 82, none, .mlk (some 3) (.list .nil 3 []) false (.tmp 80) (.tmp 81)⟩,
⟨some 83, none, .len (.tmp 82)⟩,
⟨some 84, none, .mv (.val (.int .i64 0))⟩] [] [1, 2, 3, 6, 11, 82, 83, 84])
(.blk 4 (.loop (.trim (.seq
(.reg [⟨some 85, none, .bin .lss (.tmp 84) (.tmp 83)⟩] [] [1, 2, 3, 6, 11, 82, 83, 84, 85])
(.seq
(.cond (.tmp 85)
(.skip)
(.ext 4))
(.seq
(.blk 5 (.seq
(.reg [⟨some 86, none, .iaS 3 (.tmp 82) (.tmp 84)⟩,
⟨some 87, none, .ld (some 3) (.tmp 86)⟩,
⟨some 13, none, .zer 54 (.agg [(.int .i64 0), (.int .i64 0), (.int .i64 0)])⟩,
⟨none, none, .st 3 (.tmp 13) (.tmp 87)⟩] [] [1, 2, 3, 6, 11, 13, 82, 83, 84])
(.seq
(.reg [⟨some 89, none, .faddr 11 (.tmp 3)⟩,
⟨some 90, none, .ld none (.tmp 89)⟩,
⟨some 91, none, .ld (some 3) (.tmp 13)⟩,
⟨some 92, none, .mlk (some 3) (.agg [(.int .i64 0), (.int .i64 0)]) true (.tmp 90) (.tmp 91)⟩,
⟨some 88, none, .mv (.tmp 92)⟩,
⟨some 93, none, .ext 0 (.tmp 88)⟩,
⟨some 94, none, .ext 1 (.tmp 88)⟩,
⟨some 14, none, .zer 162 (.agg [(.int .i64 0), (.int .i64 0)])⟩,
⟨none, none, .st 2 (.tmp 14) (.tmp 93)⟩,
⟨some 15, none, .mv (.tmp 94)⟩] [] [1, 2, 3, 6, 11, 13, 14, 15, 82, 83, 84])
(.seq
(.reg [⟨some 95, none, .mv (.tmp 6)⟩,
⟨some 96, none, .ld (some 3) (.tmp 13)⟩,
⟨some 97, none, .mlk (some 3) (.bool false) false (.tmp 95) (.tmp 96)⟩,
⟨some 98, none, .un .not (.tmp 97)⟩,
⟨some 99, none, .mv (.tmp 98)⟩,
⟨some 100, (some (99, true)), .mv (.tmp 15)⟩,
⟨some 101, (some (99, true)), .un .not (.tmp 100)⟩,
⟨some 102, (some (99, true)), .mv (.tmp 101)⟩,
⟨some 103, (some (102, false)), .ld (some 2) (.tmp 11)⟩,
⟨some 104, (some (102, false)), .ld (some 2) (.tmp 14)⟩,
⟨some 105, (some (102, false)), .call 131 .pure [(.tmp 103), (.tmp 104)]⟩,
⟨some 106, (some (99, true)), .pick (.tmp 102) (.val (.bool true)) (.tmp 105)⟩,
⟨some 107, none, .pick (.tmp 99) (.tmp 106) (.val (.bool false))⟩] [] [1, 2, 3, 6, 11, 13, 82, 83, 84, 107])
(.cond (.tmp 107)
(.seq
(.reg [⟨some 108, none, .faddr 11 (.tmp 3)⟩,
⟨some 109, none, .ld none (.tmp 108)⟩,
⟨some 110, none, .ld (some 3) (.tmp 13)⟩,
⟨some 111, none, .ld (some 2) (.tmp 11)⟩,
⟨none, none, .mup (some 3) (.tmp 109) (.tmp 110) (.tmp 111)⟩] [] [1, 2, 3, 6, 11, 13, 82, 83, 84])
(.reg [⟨some 112, none, .mv (.tmp 2)⟩,
⟨some 113, none, .ld (some 3) (.tmp 13)⟩,
⟨some 114, none, .bsl 1 3 [(.int .i64 0), (.int .i64 0), (.int .i64 0)] [(0, 3, (.tmp 113))]⟩,
⟨some 115, none, .app 54 3 24 (.tmp 112) (.tmp 114)⟩,
⟨some 2, none, .mv (.tmp 115)⟩] [] [1, 2, 3, 6, 11, 82, 83, 84]))
(.skip))))))
(.reg [⟨some 116, none, .bin .add (.tmp 84) (.val (.int .i64 1))⟩,
⟨some 84, none, .mv (.tmp 116)⟩] [] [1, 2, 3, 6, 11, 82, 83, 84]))))))))))))))))))))))⟩
theorem pf129_ok : fnOk Tryz.prog 129 pf129 = true := by kernel_rfl

/-- (hinterland/train.search).price -/
def pf130 : PFn := ⟨9, 2, [.tmp 4], .seq
(.reg [⟨some 2, none, .boxp 117 (.tmp 0)⟩,
⟨some 3, none, .boxp 54 (.tmp 1)⟩,
⟨some 4, none, .mv (.val (.int .i64 0))⟩] [] [2, 3])
(.seq
(.seq
(.reg [⟨some 5, none, .faddr 9 (.tmp 2)⟩,
⟨some 6, none, .ld none (.tmp 5)⟩,
⟨some 7, none, .ld (some 3) (.tmp 3)⟩,
⟨some 8, none, .call 72 .pure [(.tmp 6), (.tmp 7)]⟩] [] [8])
(.cond (.tmp 8)
(.seq
(.reg [⟨some 4, none, .mv (.val (.int .i64 101))⟩] [] [4])
(.ret))
(.skip)))
(.seq
(.reg [⟨some 4, none, .mv (.val (.int .i64 1))⟩] [] [4])
(.ret)))⟩
theorem pf130_ok : fnOk Tryz.prog 130 pf130 = true := by kernel_rfl

/-- (hinterland/train.far).less -/
def pf131 : PFn := ⟨24, 2, [.tmp 4], .seq
(.reg [⟨some 2, none, .boxp 162 (.tmp 0)⟩,
⟨some 3, none, .boxp 162 (.tmp 1)⟩,
⟨some 4, none, .mv (.val (.bool false))⟩] [] [2, 3])
(.seq
(.reg [⟨some 5, none, .faddr 0 (.tmp 2)⟩,
⟨some 6, none, .ld none (.tmp 5)⟩,
⟨some 7, none, .faddr 0 (.tmp 3)⟩,
⟨some 8, none, .ld none (.tmp 7)⟩,
⟨some 9, none, .bin .lss (.tmp 6) (.tmp 8)⟩,
⟨some 10, none, .mv (.tmp 9)⟩,
⟨some 11, (some (10, false)), .faddr 0 (.tmp 2)⟩,
⟨some 12, (some (10, false)), .ld none (.tmp 11)⟩,
⟨some 13, (some (10, false)), .faddr 0 (.tmp 3)⟩,
⟨some 14, (some (10, false)), .ld none (.tmp 13)⟩,
⟨some 15, (some (10, false)), .bin .eql (.tmp 12) (.tmp 14)⟩,
⟨some 16, (some (10, false)), .mv (.tmp 15)⟩,
⟨some 17, (some (16, true)), .faddr 1 (.tmp 2)⟩,
⟨some 18, (some (16, true)), .ld none (.tmp 17)⟩,
⟨some 19, (some (16, true)), .faddr 1 (.tmp 3)⟩,
⟨some 20, (some (16, true)), .ld none (.tmp 19)⟩,
⟨some 21, (some (16, true)), .bin .lss (.tmp 18) (.tmp 20)⟩,
⟨some 22, (some (10, false)), .pick (.tmp 16) (.tmp 21) (.val (.bool false))⟩,
⟨some 23, none, .pick (.tmp 10) (.val (.bool true)) (.tmp 22)⟩,
⟨some 4, none, .mv (.tmp 23)⟩] [] [4])
(.ret))⟩
theorem pf131_ok : fnOk Tryz.prog 131 pf131 = true := by kernel_rfl

/-- (hinterland/train.field).holder_1 -/
def pf132 : PFn := ⟨16, 2, [.tmp 3], .seq
(.reg [⟨some 2, none, .boxp 54 (.tmp 0)⟩,
⟨some 3, none, .mv (.val (.bool false))⟩] [] [1, 2])
(.seq
(.reg [⟨some 4, none, .faddr 0 (.tmp 2)⟩,
⟨some 5, none, .ld none (.tmp 4)⟩,
⟨some 6, none, .faddr 0 (.tmp 1)⟩,
⟨some 7, none, .ld none (.tmp 6)⟩,
⟨some 8, none, .bin .eql (.tmp 5) (.tmp 7)⟩,
⟨some 9, none, .mv (.tmp 8)⟩,
⟨some 10, (some (9, true)), .faddr 1 (.tmp 2)⟩,
⟨some 11, (some (9, true)), .ld none (.tmp 10)⟩,
⟨some 12, (some (9, true)), .faddr 1 (.tmp 1)⟩,
⟨some 13, (some (9, true)), .ld none (.tmp 12)⟩,
⟨some 14, (some (9, true)), .call 117 .pure [(.tmp 11), (.tmp 13)]⟩,
⟨some 15, none, .pick (.tmp 9) (.tmp 14) (.val (.bool false))⟩,
⟨some 3, none, .mv (.tmp 15)⟩] [] [3])
(.ret))⟩
theorem pf132_ok : fnOk Tryz.prog 132 pf132 = true := by kernel_rfl

/-- hinterland/rail.all -/
def pf134 : PFn := ⟨27, 2, [.tmp 4], .seq
(.reg [⟨some 2, none, .boxp 25 (.tmp 0)⟩,
⟨some 4, none, .mv (.val (.int .i64 0))⟩] [] [1, 2])
(.seq
(.seq
(.reg [⟨some 9, none, .ld (some 4) (.tmp 2)⟩,
⟨some 10, none, .call 104 .pure [(.tmp 9)]⟩,
⟨some 5, none, .mv (.tmp 10)⟩] [] [1, 2, 5])
(.seq
(.reg [⟨some 11, none, .mv (.tmp 5)⟩,
⟨some 12, none, .bin .neq (.tmp 11) (.val (.int .i64 0))⟩] [] [1, 2, 5, 12])
(.cond (.tmp 12)
(.seq
(.reg [⟨some 13, none, .mv (.tmp 5)⟩,
⟨some 4, none, .mv (.tmp 13)⟩] [] [4])
(.ret))
(.skip))))
(.seq
(.seq
(.reg [⟨some 14, none, .mv (.tmp 1)⟩,
⟨some 15, none, .len (.tmp 14)⟩,
⟨some 16, none, .mv (.val (.int .i64 0))⟩] [] [2, 14, 15, 16])
(.blk 0 (.loop (.trim (.seq
(.reg [⟨some 17, none, .bin .lss (.tmp 16) (.tmp 15)⟩] [] [2, 14, 15, 16, 17])
(.seq
(.cond (.tmp 17)
(.skip)
(.ext 0))
(.seq
(.blk 1 (.seq
(.reg [⟨some 18, none, .iaS 3 (.tmp 14) (.tmp 16)⟩,
⟨some 19, none, .ld (some 3) (.tmp 18)⟩,
⟨some 7, none, .zer 54 (.agg [(.int .i64 0), (.int .i64 0), (.int .i64 0)])⟩,
⟨none, none, .st 3 (.tmp 7) (.tmp 19)⟩] [] [2, 7, 14, 15, 16])
(.seq
(.reg [⟨some 20, none, .ld (some 4) (.tmp 2)⟩,
⟨some 21, none, .ld (some 3) (.tmp 7)⟩,
⟨some 22, none, .call 156 .pure [(.tmp 20), (.tmp 21)]⟩,
⟨some 8, none, .mv (.tmp 22)⟩] [] [2, 8, 14, 15, 16])
(.seq
(.reg [⟨some 23, none, .mv (.tmp 8)⟩,
⟨some 24, none, .bin .neq (.tmp 23) (.val (.int .i64 0))⟩] [] [2, 8, 14, 15, 16, 24])
(.cond (.tmp 24)
(.seq
(.reg [⟨some 25, none, .mv (.tmp 8)⟩,
⟨some 4, none, .mv (.tmp 25)⟩] [] [4])
(.ret))
(.skip))))))
(.reg [⟨some 26, none, .bin .add (.tmp 16) (.val (.int .i64 1))⟩,
⟨some 16, none, .mv (.tmp 26)⟩] [] [2, 14, 15, 16]))))))))
(.seq
(.reg [⟨some 4, none, .mv (.val (.int .i64 0))⟩] [] [4])
(.ret))))⟩
theorem pf134_ok : fnOk Tryz.prog 134 pf134 = true := by kernel_rfl

/-- hinterland/rail.next -/
def pf135 : PFn := ⟨56, 2, [.tmp 4], .seq
(.reg [⟨some 2, none, .boxp 25 (.tmp 0)⟩,
⟨some 3, none, .boxp 54 (.tmp 1)⟩,
⟨some 4, none, .mv (.val (.list .nil 3 []))⟩] [] [2, 3])
(.seq
(.reg [⟨some 12, none, .faddr 0 (.tmp 2)⟩,
⟨some 13, none, .ld none (.tmp 12)⟩,
⟨some 14, none, .faddr 1 (.tmp 2)⟩,
⟨some 15, none, .ld none (.tmp 14)⟩,
⟨some 16, none, .faddr 0 (.tmp 3)⟩,
⟨some 17, none, .ld none (.tmp 16)⟩,
⟨some 18, none, .faddr 2 (.tmp 3)⟩,
⟨some 19, none, .ld none (.tmp 18)⟩,
⟨some 20, none, .call 157 .pure [(.tmp 13), (.tmp 15), (.tmp 17), (.tmp 19)]⟩,
⟨some 11, none, .mv (.tmp 20)⟩,
⟨some 21, none, .ext 0 (.tmp 11)⟩,
⟨some 22, none, .ext 1 (.tmp 11)⟩,
⟨some 5, none, .mv (.tmp 21)⟩,
⟨some 6, none, .mv (.tmp 22)⟩] [] [2, 3, 5, 6])
(.seq
(.seq
(.reg [⟨some 23, none, .mv (.tmp 6)⟩,
⟨some 24, none, .un .not (.tmp 23)⟩] [] [2, 3, 5, 24])
(.cond (.tmp 24)
(.seq
(.reg [⟨some 4, none, .mv (.val (.list .nil 3 []))⟩] [] [4])
(.ret))
(.skip)))
(.seq
(.reg [⟨some 7, none, .nacc 54 3⟩] [] [2, 3, 5, 7])
(.seq
(.seq
(.reg [⟨some 25, none, .mv (.val (.int .i64 0))⟩] [] [2, 3, 5, 7, 25])
(.blk 0 (.loop (.seq
(.reg [⟨some 26, none, .bin .lss (.tmp 25) (.val (.int .i64 6))⟩] [] [2, 3, 5, 7, 25, 26])
(.seq
(.cond (.tmp 26)
(.skip)
(.ext 0))
(.seq
(.blk 1 (.seq
(.reg [⟨some 27, none, .mv (.tmp 25)⟩,
⟨some 8, none, .mv (.tmp 27)⟩] [] [2, 3, 5, 7, 8, 25])
(.seq
(.seq
(.reg [⟨some 28, none, .faddr 2 (.tmp 2)⟩,
⟨some 29, none, .ld none (.tmp 28)⟩,
⟨some 30, none, .mv (.tmp 5)⟩,
⟨some 31, none, .iaS 1 (.tmp 29) (.tmp 30)⟩,
⟨some 32, none, .ld none (.tmp 31)⟩,
⟨some 33, none, .mv (.tmp 8)⟩,
⟨some 34, none, .bin .shr (.tmp 32) (.tmp 33)⟩,
⟨some 35, none, .bin .and (.tmp 34) (.val (.int .i64 1))⟩,
⟨some 36, none, .bin .eql (.tmp 35) (.val (.int .i64 0))⟩] [] [2, 3, 5, 7, 8, 25, 36])
(.cond (.tmp 36)
(.ext 1)
(.skip)))
(.seq
(.reg [⟨some 38, none, .mv (.tmp 8)⟩,
⟨some 39, none, .faddr 2 (.tmp 3)⟩,
⟨some 40, none, .ld none (.tmp 39)⟩,
⟨some 41, none, .bin .add (.tmp 40) (.val (.int .i64 2))⟩,
⟨some 42, none, .bin .rem (.tmp 41) (.val (.int .i64 4))⟩,
⟨some 43, none, .call 158 .pure [(.tmp 38), (.tmp 42)]⟩,
⟨some 37, none, .mv (.tmp 43)⟩,
⟨some 44, none, .ext 0 (.tmp 37)⟩,
⟨some 45, none, .ext 1 (.tmp 37)⟩,
⟨some 9, none, .mv (.tmp 44)⟩,
⟨some 10, none, .mv (.tmp 45)⟩] [] [2, 3, 5, 7, 8, 9, 10, 25])
(.seq
(.reg [⟨some 46, none, .mv (.tmp 10)⟩] [] [2, 3, 5, 7, 8, 9, 25, 46])
(.cond (.tmp 46)
(.reg [⟨some 47, none, .mv (.tmp 7)⟩,
⟨some 48, none, .mv (.tmp 5)⟩,
⟨some 49, none, .mv (.tmp 8)⟩,
⟨some 50, none, .mv (.tmp 9)⟩,
⟨some 51, none, .bld [(.int .i64 0), (.int .i64 0), (.int .i64 0)] [(0, 1, (.tmp 48)), (1, 1, (.tmp 49)), (2, 1, (.tmp 50))]⟩,
⟨some 52, none, .bsl 1 3 [(.int .i64 0), (.int .i64 0), (.int .i64 0)] [(0, 3, (.tmp 51))]⟩,
⟨some 53, none, .app 54 3 24 (.tmp 47) (.tmp 52)⟩,
⟨some 7, none, .mv (.tmp 53)⟩] [] [2, 3, 5, 7, 25])
(.skip)))))))
(.reg [⟨some 54, none, .bin .add (.tmp 25) (.val (.int .i64 1))⟩,
⟨some 25, none, .mv (.tmp 54)⟩] [] [2, 3, 5, 7, 25])))))))
(.seq
(.reg [⟨some 55, none, .mv (.tmp 7)⟩,
⟨some 4, none, .mv (.tmp 55)⟩] [] [4])
(.ret))))))⟩
theorem pf135_ok : fnOk Tryz.prog 135 pf135 = true := by kernel_rfl

/-- (hinterland/train.field).next -/
def pf136 : PFn := ⟨111, 2, [.tmp 4], .seq
(.reg [⟨some 2, none, .boxp 90 (.tmp 0)⟩,
⟨some 3, none, .boxp 54 (.tmp 1)⟩,
⟨some 4, none, .mv (.val (.list .nil 3 []))⟩] [] [2, 3])
(.seq
(.reg [⟨some 14, none, .faddr 0 (.tmp 2)⟩,
⟨some 15, none, .faddr 0 (.tmp 14)⟩,
⟨some 16, none, .ld (some 4) (.tmp 15)⟩,
⟨some 5, none, .zer 25 (.agg [(.int .i64 0), (.int .i64 0), (.list .nil 1 []), (.list .nil 1 [])])⟩,
⟨none, none, .st 4 (.tmp 5) (.tmp 16)⟩] [] [3, 5])
(.seq
(.reg [⟨some 17, none, .faddr 0 (.tmp 3)⟩,
⟨some 18, none, .ld none (.tmp 17)⟩,
⟨some 19, none, .faddr 0 (.tmp 5)⟩,
⟨some 20, none, .ld none (.tmp 19)⟩,
⟨some 21, none, .bin .rem (.tmp 18) (.tmp 20)⟩,
⟨some 22, none, .faddr 0 (.tmp 3)⟩,
⟨some 23, none, .ld none (.tmp 22)⟩,
⟨some 24, none, .faddr 0 (.tmp 5)⟩,
⟨some 25, none, .ld none (.tmp 24)⟩,
⟨some 26, none, .bin .quo (.tmp 23) (.tmp 25)⟩,
⟨some 6, none, .mv (.tmp 21)⟩,
⟨some 7, none, .mv (.tmp 26)⟩] [] [3, 5, 6, 7])
(.seq
(.seq
(.reg [⟨some 27, none, .faddr 2 (.tmp 3)⟩,
⟨some 28, none, .ld none (.tmp 27)⟩] [] [3, 5, 6, 7, 28])
(.blk 0 (.seq
(.reg [⟨some 32, none, .bin .eql (.tmp 28) (.val (.int .i64 0))⟩,
⟨some 31, none, .mv (.tmp 32)⟩] [] [3, 5, 6, 7, 28, 31])
(.cond (.tmp 31)
(.reg [⟨some 33, none, .mv (.tmp 6)⟩,
⟨some 34, none, .bin .add (.tmp 33) (.val (.int .i64 1))⟩,
⟨some 6, none, .mv (.tmp 34)⟩] [] [3, 5, 6, 7])
(.seq
(.reg [⟨some 36, none, .bin .eql (.tmp 28) (.val (.int .i64 1))⟩,
⟨some 35, none, .mv (.tmp 36)⟩] [] [3, 5, 6, 7, 28, 35])
(.cond (.tmp 35)
(.reg [⟨some 37, none, .mv (.tmp 7)⟩,
⟨some 38, none, .bin .add (.tmp 37) (.val (.int .i64 1))⟩,
⟨some 7, none, .mv (.tmp 38)⟩] [] [3, 5, 6, 7])
(.seq
(.reg [⟨some 40, none, .bin .eql (.tmp 28) (.val (.int .i64 2))⟩,
⟨some 39, none, .mv (.tmp 40)⟩] [] [3, 5, 6, 7, 39])
(.cond (.tmp 39)
(.reg [⟨some 41, none, .mv (.tmp 6)⟩,
⟨some 42, none, .bin .sub (.tmp 41) (.val (.int .i64 1))⟩,
⟨some 6, none, .mv (.tmp 42)⟩] [] [3, 5, 6, 7])
(.reg [⟨some 29, none, .mv (.tmp 7)⟩,
⟨some 30, none, .bin .sub (.tmp 29) (.val (.int .i64 1))⟩,
⟨some 7, none, .mv (.tmp 30)⟩] [] [3, 5, 6, 7])))))))))
(.seq
(.seq
(.reg [⟨some 43, none, .mv (.tmp 6)⟩,
⟨some 44, none, .bin .lss (.tmp 43) (.val (.int .i64 0))⟩,
⟨some 45, none, .mv (.tmp 44)⟩,
⟨some 46, (some (45, false)), .mv (.tmp 6)⟩,
⟨some 47, (some (45, false)), .faddr 0 (.tmp 5)⟩,
⟨some 48, (some (45, false)), .ld none (.tmp 47)⟩,
⟨some 49, (some (45, false)), .bin .geq (.tmp 46) (.tmp 48)⟩,
⟨some 50, none, .pick (.tmp 45) (.val (.bool true)) (.tmp 49)⟩,
⟨some 51, none, .mv (.tmp 50)⟩,
⟨some 52, (some (51, false)), .mv (.tmp 7)⟩,
⟨some 53, (some (51, false)), .bin .lss (.tmp 52) (.val (.int .i64 0))⟩,
⟨some 54, none, .pick (.tmp 51) (.val (.bool true)) (.tmp 53)⟩,
⟨some 55, none, .mv (.tmp 54)⟩,
⟨some 56, (some (55, false)), .mv (.tmp 7)⟩,
⟨some 57, (some (55, false)), .faddr 1 (.tmp 5)⟩,
⟨some 58, (some (55, false)), .ld none (.tmp 57)⟩,
⟨some 59, (some (55, false)), .bin .geq (.tmp 56) (.tmp 58)⟩,
⟨some 60, none, .pick (.tmp 55) (.val (.bool true)) (.tmp 59)⟩] [] [3, 5, 6, 7, 60])
(.cond (.tmp 60)
(.seq
(.reg [⟨some 4, none, .mv (.val (.list .nil 3 []))⟩] [] [4])
(.ret))
(.skip)))
(.seq
(.reg [⟨some 61, none, .mv (.tmp 7)⟩,
⟨some 62, none, .faddr 0 (.tmp 5)⟩,
⟨some 63, none, .ld none (.tmp 62)⟩,
⟨some 64, none, .bin .mul (.tmp 61) (.tmp 63)⟩,
⟨some 65, none, .mv (.tmp 6)⟩,
⟨some 66, none, .bin .add (.tmp 64) (.tmp 65)⟩,
⟨some 67, none, .faddr 2 (.tmp 3)⟩,
⟨some 68, none, .ld none (.tmp 67)⟩,
⟨some 69, none, .bin .add (.tmp 68) (.val (.int .i64 2))⟩,
⟨some 70, none, .bin .rem (.tmp 69) (.val (.int .i64 4))⟩,
⟨some 8, none, .mv (.tmp 66)⟩,
⟨some 9, none, .mv (.tmp 70)⟩] [] [5, 8, 9])
(.seq
(.reg [⟨some 10, none, .nacc 54 3⟩] [] [5, 8, 9, 10])
(.seq
(.seq
(.reg [⟨some 71, none, .mv (.val (.int .i64 0))⟩] [] [5, 8, 9, 10, 71])
(.blk 1 (.loop (.seq
(.reg [⟨some 72, none, .bin .lss (.tmp 71) (.val (.int .i64 6))⟩] [] [5, 8, 9, 10, 71, 72])
(.seq
(.cond (.tmp 72)
(.skip)
(.ext 1))
(.seq
(.blk 2 (.seq
(.reg [⟨some 73, none, .mv (.tmp 71)⟩,
⟨some 11, none, .mv (.tmp 73)⟩] [] [5, 8, 9, 10, 11, 71])
(.seq
(.reg [⟨some 74, none, .faddr 2 (.tmp 5)⟩,
⟨some 75, none, .ld none (.tmp 74)⟩,
⟨some 76, none, .mv (.tmp 8)⟩,
⟨some 77, none, .iaS 1 (.tmp 75) (.tmp 76)⟩,
⟨some 78, none, .ld none (.tmp 77)⟩,
⟨some 79, none, .mv (.tmp 11)⟩,
⟨some 80, none, .bin .shr (.tmp 78) (.tmp 79)⟩,
⟨some 81, none, .bin .and (.tmp 80) (.val (.int .i64 1))⟩,
⟨some 82, none, .bin .eql (.tmp 81) (.val (.int .i64 1))⟩] [] [5, 8, 9, 10, 11, 71, 82])
(.cond (.tmp 82)
(.seq
(.reg [⟨some 84, none, .mv (.tmp 11)⟩,
⟨some 85, none, .call 102 .pure [(.tmp 84)]⟩,
⟨some 83, none, .mv (.tmp 85)⟩,
⟨some 86, none, .ext 0 (.tmp 83)⟩,
⟨some 87, none, .ext 1 (.tmp 83)⟩,
⟨some 12, none, .mv (.tmp 86)⟩,
⟨some 13, none, .mv (.tmp 87)⟩] [] [5, 8, 9, 10, 11, 12, 13, 71])
(.seq
(.reg [⟨some 88, none, .mv (.tmp 9)⟩] [] [5, 8, 9, 10, 11, 12, 13, 71, 88])
(.blk 3 (.seq
(.reg [⟨some 90, none, .mv (.tmp 12)⟩,
⟨some 91, none, .bin .eql (.tmp 88) (.tmp 90)⟩,
⟨some 89, none, .mv (.tmp 91)⟩] [] [5, 8, 9, 10, 11, 12, 13, 71, 88, 89])
(.cond (.tmp 89)
(.reg [⟨some 92, none, .mv (.tmp 10)⟩,
⟨some 93, none, .mv (.tmp 8)⟩,
⟨some 94, none, .mv (.tmp 11)⟩,
⟨some 95, none, .mv (.tmp 13)⟩,
⟨some 96, none, .bld [(.int .i64 0), (.int .i64 0), (.int .i64 0)] [(0, 1, (.tmp 93)), (1, 1, (.tmp 94)), (2, 1, (.tmp 95))]⟩,
⟨some 97, none, .bsl 1 3 [(.int .i64 0), (.int .i64 0), (.int .i64 0)] [(0, 3, (.tmp 96))]⟩,
⟨some 98, none, .app 54 3 24 (.tmp 92) (.tmp 97)⟩,
⟨some 10, none, .mv (.tmp 98)⟩] [] [5, 8, 9, 10, 71])
(.seq
(.reg [⟨some 100, none, .mv (.tmp 13)⟩,
⟨some 101, none, .bin .eql (.tmp 88) (.tmp 100)⟩,
⟨some 99, none, .mv (.tmp 101)⟩] [] [5, 8, 9, 10, 11, 12, 71, 99])
(.cond (.tmp 99)
(.reg [⟨some 102, none, .mv (.tmp 10)⟩,
⟨some 103, none, .mv (.tmp 8)⟩,
⟨some 104, none, .mv (.tmp 11)⟩,
⟨some 105, none, .mv (.tmp 12)⟩,
⟨some 106, none, .bld [(.int .i64 0), (.int .i64 0), (.int .i64 0)] [(0, 1, (.tmp 103)), (1, 1, (.tmp 104)), (2, 1, (.tmp 105))]⟩,
⟨some 107, none, .bsl 1 3 [(.int .i64 0), (.int .i64 0), (.int .i64 0)] [(0, 3, (.tmp 106))]⟩,
⟨some 108, none, .app 54 3 24 (.tmp 102) (.tmp 107)⟩,
⟨some 10, none, .mv (.tmp 108)⟩] [] [5, 8, 9, 10, 71])
(.skip))))))))
(.skip)))))
(.reg [⟨some 109, none, .bin .add (.tmp 71) (.val (.int .i64 1))⟩,
⟨some 71, none, .mv (.tmp 109)⟩] [] [5, 8, 9, 10, 71])))))))
(.seq
(.reg [⟨some 110, none, .mv (.tmp 10)⟩,
⟨some 4, none, .mv (.tmp 110)⟩] [] [4])
(.ret)))))))))⟩
theorem pf136_ok : fnOk Tryz.prog 136 pf136 = true := by kernel_rfl

/-- slices.SortFunc[[]hinterland/api.Spot,hinterland/api.Spot] -/
def pf137 : PFn := ⟨14, 2, [], .seq
(.reg [⟨some 5, none, .mv (.tmp 0)⟩,
⟨some 6, none, .len (.tmp 5)⟩,
⟨some 4, none, .mv (.tmp 6)⟩] [] [0, 1, 4])
(.reg [⟨some 7, none, .mv (.tmp 0)⟩,
⟨some 8, none, .mv (.tmp 4)⟩,
⟨some 9, none, .mv (.tmp 4)⟩,
⟨some 10, none, .conv .u64 (.tmp 9)⟩,
⟨some 11, none, .call 160 .pure [(.tmp 10)]⟩,
⟨some 12, none, .mv (.tmp 1)⟩,
⟨some 13, none, .call 159 .opn [(.tmp 7), (.val (.int .i64 0)), (.tmp 8), (.tmp 11), (.tmp 12)]⟩] [] [])⟩
theorem pf137_ok : fnOk Tryz.prog 137 pf137 = true := by kernel_rfl

/-- slices.Compact[[]hinterland/api.Spot,hinterland/api.Spot] -/
def pf138 : PFn := ⟨61, 1, [.tmp 2], .seq
(.reg [⟨some 2, none, .mv (.val (.list .nil 3 []))⟩] [] [0])
(.seq
(.seq
(.reg [⟨some 6, none, .mv (.tmp 0)⟩,
⟨some 7, none, .len (.tmp 6)⟩,
⟨some 8, none, .bin .lss (.tmp 7) (.val (.int .i64 2))⟩] [] [0, 8])
(.cond (.tmp 8)
(.seq
(.reg [⟨some 9, none, .mv (.tmp 0)⟩,
⟨some 2, none, .mv (.tmp 9)⟩] [] [2])
(.ret))
(.skip)))
(.seq
(.seq
(.reg [⟨some 3, none, .mv (.val (.int .i64 1))⟩] [] [0, 3])
(.blk 0 (.loop (.seq
(.seq
(.reg [⟨some 10, none, .mv (.tmp 3)⟩,
⟨some 11, none, .mv (.tmp 0)⟩,
⟨some 12, none, .len (.tmp 11)⟩,
⟨some 13, none, .bin .lss (.tmp 10) (.tmp 12)⟩] [] [0, 3, 13])
(.cond (.tmp 13)
(.skip)
(.ext 0)))
(.seq
(.blk 1 (.seq
(.reg [⟨some 16, none, .mv (.tmp 0)⟩,
⟨some 17, none, .mv (.tmp 3)⟩,
⟨some 18, none, .iaS 3 (.tmp 16) (.tmp 17)⟩,
⟨some 19, none, .ld (some 3) (.tmp 18)⟩,
⟨some 20, none, .mv (.tmp 0)⟩,
⟨some 21, none, .mv (.tmp 3)⟩,
⟨some 22, none, .bin .sub (.tmp 21) (.val (.int .i64 1))⟩,
⟨some 23, none, .iaS 3 (.tmp 20) (.tmp 22)⟩,
⟨some 24, none, .ld (some 3) (.tmp 23)⟩,
⟨some 25, none, .eqs false [true, true, true] (.tmp 19) (.tmp 24)⟩] [] [0, 3, 25])
(.cond (.tmp 25)
(.seq
(.reg [⟨some 26, none, .mv (.tmp 0)⟩,
⟨some 27, none, .mv (.tmp 3)⟩,
⟨some 28, none, .slc 3 (.tmp 26) (some (.tmp 27)) none none⟩,
⟨some 4, none, .mv (.tmp 28)⟩] [] [0, 3, 4])
(.seq
(.seq
(.reg [⟨some 5, none, .mv (.val (.int .i64 1))⟩] [] [0, 3, 4, 5])
(.blk 2 (.loop (.seq
(.seq
(.reg [⟨some 29, none, .mv (.tmp 5)⟩,
⟨some 30, none, .mv (.tmp 4)⟩,
⟨some 31, none, .len (.tmp 30)⟩,
⟨some 32, none, .bin .lss (.tmp 29) (.tmp 31)⟩] [] [0, 3, 4, 5, 32])
(.cond (.tmp 32)
(.skip)
(.ext 2)))
(.seq
(.blk 3 (.seq
(.reg [⟨some 35, none, .mv (.tmp 4)⟩,
⟨some 36, none, .mv (.tmp 5)⟩,
⟨some 37, none, .iaS 3 (.tmp 35) (.tmp 36)⟩,
⟨some 38, none, .ld (some 3) (.tmp 37)⟩,
⟨some 39, none, .mv (.tmp 4)⟩,
⟨some 40, none, .mv (.tmp 5)⟩,
⟨some 41, none, .bin .sub (.tmp 40) (.val (.int .i64 1))⟩,
⟨some 42, none, .iaS 3 (.tmp 39) (.tmp 41)⟩,
⟨some 43, none, .ld (some 3) (.tmp 42)⟩,
⟨some 44, none, .eqs true [true, true, true] (.tmp 38) (.tmp 43)⟩] [] [0, 3, 4, 5, 44])
(.cond (.tmp 44)
(.seq
(.reg [⟨some 45, none, .mv (.tmp 0)⟩,
⟨some 46, none, .mv (.tmp 3)⟩,
⟨some 47, none, .mv (.tmp 4)⟩,
⟨some 48, none, .mv (.tmp 5)⟩,
⟨some 49, none, .iaS 3 (.tmp 47) (.tmp 48)⟩,
⟨some 50, none, .ld (some 3) (.tmp 49)⟩,
⟨some 51, none, .iaS 3 (.tmp 45) (.tmp 46)⟩,
⟨none, none, .st 3 (.tmp 51) (.tmp 50)⟩] [] [0, 3, 4, 5])
(.reg [⟨some 52, none, .mv (.tmp 3)⟩,
⟨some 53, none, .bin .add (.tmp 52) (.val (.int .i64 1))⟩,
⟨some 3, none, .mv (.tmp 53)⟩] [] [0, 3, 4, 5]))
(.skip))))
(.reg [⟨some 33, none, .mv (.tmp 5)⟩,
⟨some 34, none, .bin .add (.tmp 33) (.val (.int .i64 1))⟩,
⟨some 5, none, .mv (.tmp 34)⟩] [] [0, 3, 4, 5]))))))
(.seq
(.reg [⟨some 54, none, .mv (.tmp 0)⟩,
⟨some 55, none, .mv (.tmp 3)⟩,
⟨some 56, none, .slc 3 (.tmp 54) (some (.tmp 55)) none none⟩,
⟨none, none, .clr 3 [(.int .i64 0), (.int .i64 0), (.int .i64 0)] (.tmp 56)⟩] [] [0, 3])
(.seq
(.reg [⟨some 57, none, .mv (.tmp 0)⟩,
⟨some 58, none, .mv (.tmp 3)⟩,
⟨some 59, none, .slc 3 (.tmp 57) none (some (.tmp 58)) none⟩,
⟨some 2, none, .mv (.tmp 59)⟩] [] [2])
(.ret)))))
(.skip))))
(.reg [⟨some 14, none, .mv (.tmp 3)⟩,
⟨some 15, none, .bin .add (.tmp 14) (.val (.int .i64 1))⟩,
⟨some 3, none, .mv (.tmp 15)⟩] [] [0, 3]))))))
(.seq
(.reg [⟨some 60, none, .mv (.tmp 0)⟩,
⟨some 2, none, .mv (.tmp 60)⟩] [] [2])
(.ret))))⟩
theorem pf138_ok : fnOk Tryz.prog 138 pf138 = true := by kernel_rfl

/-- slices.Index[[]hinterland/api.Spot,hinterland/api.Spot] -/
def pf143 : PFn := ⟨19, 2, [.tmp 4], .seq
(.reg [⟨some 3, none, .boxp 54 (.tmp 1)⟩,
⟨some 4, none, .mv (.val (.int .i64 0))⟩] [] [0, 3])
(.seq
(.seq
(.reg [⟨some 6, none, .mv (.tmp 0)⟩,
⟨some 7, none, .len (.tmp 6)⟩,
⟨some 8, none, .mv (.val (.int .i64 0))⟩] [] [0, 3, 7, 8])
(.blk 0 (.loop (.seq
(.reg [⟨some 9, none, .bin .lss (.tmp 8) (.tmp 7)⟩] [] [0, 3, 7, 8, 9])
(.seq
(.cond (.tmp 9)
(.skip)
(.ext 0))
(.seq
(.blk 1 (.seq
(.reg [⟨some 10, none, .mv (.tmp 8)⟩,
⟨some 5, none, .mv (.tmp 10)⟩] [] [0, 3, 5, 7, 8])
(.seq
(.reg [⟨some 11, none, .ld (some 3) (.tmp 3)⟩,
⟨some 12, none, .mv (.tmp 0)⟩,
⟨some 13, none, .mv (.tmp 5)⟩,
⟨some 14, none, .iaS 3 (.tmp 12) (.tmp 13)⟩,
⟨some 15, none, .ld (some 3) (.tmp 14)⟩,
⟨some 16, none, .eqs false [true, true, true] (.tmp 11) (.tmp 15)⟩] [] [0, 3, 5, 7, 8, 16])
(.cond (.tmp 16)
(.seq
(.reg [⟨some 17, none, .mv (.tmp 5)⟩,
⟨some 4, none, .mv (.tmp 17)⟩] [] [4])
(.ret))
(.skip)))))
(.reg [⟨some 18, none, .bin .add (.tmp 8) (.val (.int .i64 1))⟩,
⟨some 8, none, .mv (.tmp 18)⟩] [] [0, 3, 7, 8])))))))
(.seq
(.reg [⟨some 4, none, .mv (.val (.int .i64 (-1)))⟩] [] [4])
(.ret)))⟩
theorem pf143_ok : fnOk Tryz.prog 143 pf143 = true := by kernel_rfl

/-- hinterland/block.Blocks -/
def pf145 : PFn := ⟨17, 2, [.tmp 4, .tmp 5], .seq
(.reg [⟨some 2, none, .boxp 25 (.tmp 0)⟩,
⟨some 4, none, .mv (.val (.list .nil 2 []))⟩,
⟨some 5, none, .mv (.val (.int .i64 0))⟩] [] [1, 2])
(.seq
(.seq
(.reg [⟨some 7, none, .ld (some 4) (.tmp 2)⟩,
⟨some 8, none, .mv (.tmp 1)⟩,
⟨some 9, none, .call 54 .pure [(.tmp 7), (.tmp 8)]⟩,
⟨some 6, none, .mv (.tmp 9)⟩] [] [1, 2, 6])
(.seq
(.reg [⟨some 10, none, .mv (.tmp 6)⟩,
⟨some 11, none, .bin .neq (.tmp 10) (.val (.int .i64 0))⟩] [] [1, 2, 6, 11])
(.cond (.tmp 11)
(.seq
(.reg [⟨some 12, none, .mv (.tmp 6)⟩,
⟨some 4, none, .mv (.val (.list .nil 2 []))⟩,
⟨some 5, none, .mv (.tmp 12)⟩] [] [4, 5])
(.ret))
(.skip))))
(.seq
(.reg [⟨some 13, none, .ld (some 4) (.tmp 2)⟩,
⟨some 14, none, .mv (.tmp 1)⟩,
⟨some 15, none, .call 163 .pure [(.tmp 13), (.tmp 14)]⟩,
⟨some 16, none, .call 162 .pure [(.tmp 15)]⟩,
⟨some 4, none, .mv (.tmp 16)⟩,
⟨some 5, none, .mv (.val (.int .i64 0))⟩] [] [4, 5])
(.ret)))⟩
theorem pf145_ok : fnOk Tryz.prog 145 pf145 = true := by kernel_rfl

/-- slices.Sort[[]int,int] -/
def pf146 : PFn := ⟨11, 1, [], .seq
(.reg [⟨some 3, none, .mv (.tmp 0)⟩,
⟨some 4, none, .len (.tmp 3)⟩,
⟨some 2, none, .mv (.tmp 4)⟩] [] [0, 2])
(.reg [⟨some 5, none, .mv (.tmp 0)⟩,
⟨some 6, none, .mv (.tmp 2)⟩,
⟨some 7, none, .mv (.tmp 2)⟩,
⟨some 8, none, .conv .u64 (.tmp 7)⟩,
⟨some 9, none, .call 160 .pure [(.tmp 8)]⟩,
⟨some 10, none, .call 164 .opn [(.tmp 5), (.val (.int .i64 0)), (.tmp 6), (.tmp 9)]⟩] [] [])⟩
theorem pf146_ok : fnOk Tryz.prog 146 pf146 = true := by kernel_rfl

/-- slices.Compact[[]int,int] -/
def pf147 : PFn := ⟨61, 1, [.tmp 2], .seq
(.reg [⟨some 2, none, .mv (.val (.list .nil 1 []))⟩] [] [0])
(.seq
(.seq
(.reg [⟨some 6, none, .mv (.tmp 0)⟩,
⟨some 7, none, .len (.tmp 6)⟩,
⟨some 8, none, .bin .lss (.tmp 7) (.val (.int .i64 2))⟩] [] [0, 8])
(.cond (.tmp 8)
(.seq
(.reg [⟨some 9, none, .mv (.tmp 0)⟩,
⟨some 2, none, .mv (.tmp 9)⟩] [] [2])
(.ret))
(.skip)))
(.seq
(.seq
(.reg [⟨some 3, none, .mv (.val (.int .i64 1))⟩] [] [0, 3])
(.blk 0 (.loop (.seq
(.seq
(.reg [⟨some 10, none, .mv (.tmp 3)⟩,
⟨some 11, none, .mv (.tmp 0)⟩,
⟨some 12, none, .len (.tmp 11)⟩,
⟨some 13, none, .bin .lss (.tmp 10) (.tmp 12)⟩] [] [0, 3, 13])
(.cond (.tmp 13)
(.skip)
(.ext 0)))
(.seq
(.blk 1 (.seq
(.reg [⟨some 16, none, .mv (.tmp 0)⟩,
⟨some 17, none, .mv (.tmp 3)⟩,
⟨some 18, none, .iaS 1 (.tmp 16) (.tmp 17)⟩,
⟨some 19, none, .ld none (.tmp 18)⟩,
⟨some 20, none, .mv (.tmp 0)⟩,
⟨some 21, none, .mv (.tmp 3)⟩,
⟨some 22, none, .bin .sub (.tmp 21) (.val (.int .i64 1))⟩,
⟨some 23, none, .iaS 1 (.tmp 20) (.tmp 22)⟩,
⟨some 24, none, .ld none (.tmp 23)⟩,
⟨some 25, none, .bin .eql (.tmp 19) (.tmp 24)⟩] [] [0, 3, 25])
(.cond (.tmp 25)
(.seq
(.reg [⟨some 26, none, .mv (.tmp 0)⟩,
⟨some 27, none, .mv (.tmp 3)⟩,
⟨some 28, none, .slc 1 (.tmp 26) (some (.tmp 27)) none none⟩,
⟨some 4, none, .mv (.tmp 28)⟩] [] [0, 3, 4])
(.seq
(.seq
(.reg [⟨some 5, none, .mv (.val (.int .i64 1))⟩] [] [0, 3, 4, 5])
(.blk 2 (.loop (.seq
(.seq
(.reg [⟨some 29, none, .mv (.tmp 5)⟩,
⟨some 30, none, .mv (.tmp 4)⟩,
⟨some 31, none, .len (.tmp 30)⟩,
⟨some 32, none, .bin .lss (.tmp 29) (.tmp 31)⟩] [] [0, 3, 4, 5, 32])
(.cond (.tmp 32)
(.skip)
(.ext 2)))
(.seq
(.blk 3 (.seq
(.reg [⟨some 35, none, .mv (.tmp 4)⟩,
⟨some 36, none, .mv (.tmp 5)⟩,
⟨some 37, none, .iaS 1 (.tmp 35) (.tmp 36)⟩,
⟨some 38, none, .ld none (.tmp 37)⟩,
⟨some 39, none, .mv (.tmp 4)⟩,
⟨some 40, none, .mv (.tmp 5)⟩,
⟨some 41, none, .bin .sub (.tmp 40) (.val (.int .i64 1))⟩,
⟨some 42, none, .iaS 1 (.tmp 39) (.tmp 41)⟩,
⟨some 43, none, .ld none (.tmp 42)⟩,
⟨some 44, none, .bin .neq (.tmp 38) (.tmp 43)⟩] [] [0, 3, 4, 5, 44])
(.cond (.tmp 44)
(.seq
(.reg [⟨some 45, none, .mv (.tmp 0)⟩,
⟨some 46, none, .mv (.tmp 3)⟩,
⟨some 47, none, .mv (.tmp 4)⟩,
⟨some 48, none, .mv (.tmp 5)⟩,
⟨some 49, none, .iaS 1 (.tmp 47) (.tmp 48)⟩,
⟨some 50, none, .ld none (.tmp 49)⟩,
⟨some 51, none, .iaS 1 (.tmp 45) (.tmp 46)⟩,
⟨none, none, .st 1 (.tmp 51) (.tmp 50)⟩] [] [0, 3, 4, 5])
(.reg [⟨some 52, none, .mv (.tmp 3)⟩,
⟨some 53, none, .bin .add (.tmp 52) (.val (.int .i64 1))⟩,
⟨some 3, none, .mv (.tmp 53)⟩] [] [0, 3, 4, 5]))
(.skip))))
(.reg [⟨some 33, none, .mv (.tmp 5)⟩,
⟨some 34, none, .bin .add (.tmp 33) (.val (.int .i64 1))⟩,
⟨some 5, none, .mv (.tmp 34)⟩] [] [0, 3, 4, 5]))))))
(.seq
(.reg [⟨some 54, none, .mv (.tmp 0)⟩,
⟨some 55, none, .mv (.tmp 3)⟩,
⟨some 56, none, .slc 1 (.tmp 54) (some (.tmp 55)) none none⟩,
⟨none, none, .clr 1 [(.int .i64 0)] (.tmp 56)⟩] [] [0, 3])
(.seq
(.reg [⟨some 57, none, .mv (.tmp 0)⟩,
⟨some 58, none, .mv (.tmp 3)⟩,
⟨some 59, none, .slc 1 (.tmp 57) none (some (.tmp 58)) none⟩,
⟨some 2, none, .mv (.tmp 59)⟩] [] [2])
(.ret)))))
(.skip))))
(.reg [⟨some 14, none, .mv (.tmp 3)⟩,
⟨some 15, none, .bin .add (.tmp 14) (.val (.int .i64 1))⟩,
⟨some 3, none, .mv (.tmp 15)⟩] [] [0, 3]))))))
(.seq
(.reg [⟨some 60, none, .mv (.tmp 0)⟩,
⟨some 2, none, .mv (.tmp 60)⟩] [] [2])
(.ret))))⟩
theorem pf147_ok : fnOk Tryz.prog 147 pf147 = true := by kernel_rfl

/-- hinterland/rail.Ends -/
def pf149 : PFn := ⟨22, 1, [.tmp 2, .tmp 3, .tmp 4], .seq
(.reg [⟨some 2, none, .mv (.val (.int .i64 0))⟩,
⟨some 3, none, .mv (.val (.int .i64 0))⟩,
⟨some 4, none, .mv (.val (.int .i64 0))⟩] [] [0])
(.seq
(.seq
(.reg [⟨some 5, none, .mv (.tmp 0)⟩] [] [0, 5])
(.blk 0 (.seq
(.seq
(.reg [⟨some 7, none, .bin .eql (.tmp 5) (.val (.int .i64 0))⟩,
⟨some 6, none, .mv (.tmp 7)⟩] [] [0, 5, 6])
(.cond (.tmp 6)
(.skip)
(.reg [⟨some 8, none, .bin .eql (.tmp 5) (.val (.int .i64 1))⟩,
⟨some 6, none, .mv (.tmp 8)⟩] [] [0, 5, 6])))
(.cond (.tmp 6)
(.seq
(.reg [⟨some 9, none, .mv (.tmp 0)⟩,
⟨some 10, none, .mv (.tmp 0)⟩,
⟨some 11, none, .bin .add (.tmp 10) (.val (.int .i64 2))⟩,
⟨some 2, none, .mv (.tmp 9)⟩,
⟨some 3, none, .mv (.tmp 11)⟩,
⟨some 4, none, .mv (.val (.int .i64 0))⟩] [] [2, 3, 4])
(.ret))
(.seq
(.seq
(.reg [⟨some 13, none, .bin .eql (.tmp 5) (.val (.int .i64 2))⟩,
⟨some 12, none, .mv (.tmp 13)⟩] [] [0, 5, 12])
(.cond (.tmp 12)
(.skip)
(.seq
(.reg [⟨some 14, none, .bin .eql (.tmp 5) (.val (.int .i64 3))⟩,
⟨some 12, none, .mv (.tmp 14)⟩] [] [0, 5, 12])
(.cond (.tmp 12)
(.skip)
(.seq
(.reg [⟨some 15, none, .bin .eql (.tmp 5) (.val (.int .i64 4))⟩,
⟨some 12, none, .mv (.tmp 15)⟩] [] [0, 5, 12])
(.cond (.tmp 12)
(.skip)
(.reg [⟨some 16, none, .bin .eql (.tmp 5) (.val (.int .i64 5))⟩,
⟨some 12, none, .mv (.tmp 16)⟩] [] [0, 12])))))))
(.cond (.tmp 12)
(.seq
(.reg [⟨some 17, none, .mv (.tmp 0)⟩,
⟨some 18, none, .bin .sub (.tmp 17) (.val (.int .i64 2))⟩,
⟨some 19, none, .mv (.tmp 0)⟩,
⟨some 20, none, .bin .sub (.tmp 19) (.val (.int .i64 1))⟩,
⟨some 21, none, .bin .rem (.tmp 20) (.val (.int .i64 4))⟩,
⟨some 2, none, .mv (.tmp 18)⟩,
⟨some 3, none, .mv (.tmp 21)⟩,
⟨some 4, none, .mv (.val (.int .i64 0))⟩] [] [2, 3, 4])
(.ret))
(.skip)))))))
(.seq
(.reg [⟨some 2, none, .mv (.val (.int .i64 0))⟩,
⟨some 3, none, .mv (.val (.int .i64 0))⟩,
⟨some 4, none, .mv (.val (.int .i64 1))⟩] [] [2, 3, 4])
(.ret)))⟩
theorem pf149_ok : fnOk Tryz.prog 149 pf149 = true := by kernel_rfl

/-- cmp.isNaN[int] -/
def pf150 : PFn := ⟨6, 1, [.tmp 2], .seq
(.reg [⟨some 2, none, .mv (.val (.bool false))⟩] [] [0])
(.seq
(.reg [⟨some 3, none, .mv (.tmp 0)⟩,
⟨some 4, none, .mv (.tmp 0)⟩,
⟨some 5, none, .bin .neq (.tmp 3) (.tmp 4)⟩,
⟨some 2, none, .mv (.tmp 5)⟩] [] [2])
(.ret))⟩
theorem pf150_ok : fnOk Tryz.prog 150 pf150 = true := by kernel_rfl

/-- hinterland/train.own_1 -/
def pf153 : PFn := ⟨16, 2, [.tmp 3], .seq
(.reg [⟨some 2, none, .boxp 54 (.tmp 0)⟩,
⟨some 3, none, .mv (.val (.bool false))⟩] [] [1, 2])
(.seq
(.reg [⟨some 4, none, .faddr 0 (.tmp 2)⟩,
⟨some 5, none, .ld none (.tmp 4)⟩,
⟨some 6, none, .faddr 0 (.tmp 1)⟩,
⟨some 7, none, .ld none (.tmp 6)⟩,
⟨some 8, none, .bin .eql (.tmp 5) (.tmp 7)⟩,
⟨some 9, none, .mv (.tmp 8)⟩,
⟨some 10, (some (9, true)), .faddr 1 (.tmp 2)⟩,
⟨some 11, (some (9, true)), .ld none (.tmp 10)⟩,
⟨some 12, (some (9, true)), .faddr 1 (.tmp 1)⟩,
⟨some 13, (some (9, true)), .ld none (.tmp 12)⟩,
⟨some 14, (some (9, true)), .bin .eql (.tmp 11) (.tmp 13)⟩,
⟨some 15, none, .pick (.tmp 9) (.tmp 14) (.val (.bool false))⟩,
⟨some 3, none, .mv (.tmp 15)⟩] [] [3])
(.ret))⟩
theorem pf153_ok : fnOk Tryz.prog 153 pf153 = true := by kernel_rfl

/-- hinterland/block.Shows -/
def pf154 : PFn := ⟨84, 3, [.tmp 6, .tmp 7], .seq
(.reg [⟨some 3, none, .boxp 25 (.tmp 0)⟩,
⟨some 6, none, .mv (.val (.list .nil 1 []))⟩,
⟨some 7, none, .mv (.val (.int .i64 0))⟩] [] [1, 2, 3])
(.seq
(.seq
(.reg [⟨some 18, none, .ld (some 4) (.tmp 3)⟩,
⟨some 19, none, .mv (.tmp 1)⟩,
⟨some 20, none, .call 54 .pure [(.tmp 18), (.tmp 19)]⟩,
⟨some 8, none, .mv (.tmp 20)⟩] [] [1, 2, 3, 8])
(.seq
(.reg [⟨some 21, none, .mv (.tmp 8)⟩,
⟨some 22, none, .bin .neq (.tmp 21) (.val (.int .i64 0))⟩] [] [1, 2, 3, 8, 22])
(.cond (.tmp 22)
(.seq
(.reg [⟨some 23, none, .mv (.tmp 8)⟩,
⟨some 6, none, .mv (.val (.list .nil 1 []))⟩,
⟨some 7, none, .mv (.tmp 23)⟩] [] [6, 7])
(.ret))
(.skip))))
(.seq
(.reg [⟨some 24, none, .ld (some 4) (.tmp 3)⟩,
⟨some 25, none, .mv (.tmp 1)⟩,
⟨some 26, none, .call 163 .pure [(.tmp 24), (.tmp 25)]⟩,
⟨some 9, none, .mv (.tmp 26)⟩] [] [1, 2, 3, 9])
(.seq
(.reg [⟨some 27, none, .ld (some 4) (.tmp 3)⟩,
⟨some 28, none, .mv (.tmp 1)⟩,
⟨some 29, none, .mv (.tmp 9)⟩,
⟨some 30, none, .mv (.tmp 2)⟩,
⟨some 31, none, .call 167 .pure [(.tmp 27), (.tmp 28), (.tmp 29), (.tmp 30)]⟩,
⟨some 10, none, .mv (.tmp 31)⟩] [] [1, 9, 10])
(.seq
(.reg [⟨some 32, none, .mv (.tmp 1)⟩,
⟨some 33, none, .len (.tmp 32)⟩,
⟨some 34, none, .mks 4 1 1 [(.bool false)] (.tmp 33) (.tmp 33)⟩,
⟨some 11, none, .mv (.tmp 34)⟩] [] [1, 9, 10, 11])
(.seq
(.seq
(.reg [⟨some 12, none, .mv (.val (.bool true))⟩] [] [1, 9, 10, 11, 12])
(.blk 0 (.loop (.trim (.seq
(.seq
(.reg [⟨some 35, none, .mv (.tmp 12)⟩] [] [1, 9, 10, 11, 35])
(.cond (.tmp 35)
(.skip)
(.ext 0)))
(.blk 1 (.seq
(.reg [⟨some 12, none, .mv (.val (.bool false))⟩] [] [1, 9, 10, 11, 12])
(.seq
(.reg [⟨some 36, none, .mv (.tmp 10)⟩,
⟨some 37, none, .len (.tmp 36)⟩,
⟨some 38, none, .mv (.val (.int .i64 0))⟩] [] [1, 9, 10, 11, 12, 36, 37, 38])
(.blk 2 (.loop (.trim (.seq
(.reg [⟨some 39, none, .bin .lss (.tmp 38) (.tmp 37)⟩] [] [1, 9, 10, 11, 12, 36, 37, 38, 39])
(.seq
(.cond (.tmp 39)
(.skip)
(.ext 2))
(.seq
(.blk 3 (.seq
(.reg [⟨some 40, none, .mv (.tmp 38)⟩,
⟨some 41, none, .iaS 3 (.tmp 36) (.tmp 38)⟩,
⟨some 42, none, .ld (some 3) (.tmp 41)⟩,
⟨some 14, none, .zer 200 (.agg [(.list .nil 1 []), (.bool false), (.bool false)])⟩,
⟨some 13, none, .mv (.tmp 40)⟩,
⟨none, none, .st 3 (.tmp 14) (.tmp 42)⟩] [] [1, 9, 10, 11, 12, 13, 14, 36, 37, 38])
(.seq
(.seq
(.reg [⟨some 43, none, .mv (.tmp 11)⟩,
⟨some 44, none, .mv (.tmp 13)⟩,
⟨some 45, none, .iaS 1 (.tmp 43) (.tmp 44)⟩,
⟨some 46, none, .ld none (.tmp 45)⟩,
⟨some 47, none, .mv (.tmp 46)⟩,
⟨some 48, (some (47, false)), .faddr 1 (.tmp 14)⟩,
⟨some 49, (some (47, false)), .ld none (.tmp 48)⟩,
⟨some 50, (some (47, false)), .un .not (.tmp 49)⟩,
⟨some 51, none, .pick (.tmp 47) (.val (.bool true)) (.tmp 50)⟩] [] [1, 9, 10, 11, 12, 13, 14, 36, 37, 38, 51])
(.cond (.tmp 51)
(.ext 3)
(.skip)))
(.seq
(.reg [⟨some 15, none, .mv (.val (.bool true))⟩] [] [1, 9, 10, 11, 12, 13, 14, 15, 36, 37, 38])
(.seq
(.seq
(.reg [⟨some 52, none, .faddr 0 (.tmp 14)⟩,
⟨some 53, none, .ld none (.tmp 52)⟩,
⟨some 54, none, .len (.tmp 53)⟩,
⟨some 55, none, .mv (.val (.int .i64 0))⟩] [] [1, 9, 10, 11, 12, 13, 14, 15, 36, 37, 38, 53, 54, 55])
(.blk 4 (.loop (.seq
(.reg [⟨some 56, none, .bin .lss (.tmp 55) (.tmp 54)⟩] [] [1, 9, 10, 11, 12, 13, 14, 15, 36, 37, 38, 53, 54, 55, 56])
(.seq
(.cond (.tmp 56)
(.skip)
(.ext 4))
(.seq
(.blk 5 (.seq
(.reg [⟨some 57, none, .iaS 1 (.tmp 53) (.tmp 55)⟩,
⟨some 58, none, .ld none (.tmp 57)⟩,
⟨some 17, none, .mv (.tmp 58)⟩] [] [1, 9, 10, 11, 12, 13, 14, 15, 17, 36, 37, 38, 53, 54, 55])
(.reg [⟨some 59, none, .mv (.tmp 15)⟩,
⟨some 60, none, .mv (.tmp 59)⟩,
⟨some 61, (some (60, true)), .faddr 2 (.tmp 14)⟩,
⟨some 62, (some (60, true)), .ld none (.tmp 61)⟩,
⟨some 63, (some (60, true)), .un .not (.tmp 62)⟩,
⟨some 64, (some (60, true)), .mv (.tmp 63)⟩,
⟨some 65, (some (64, false)), .mv (.tmp 1)⟩,
⟨some 66, (some (64, false)), .mv (.tmp 9)⟩,
⟨some 67, (some (64, false)), .mv (.tmp 11)⟩,
⟨some 68, (some (64, false)), .mv (.tmp 13)⟩,
⟨some 69, (some (64, false)), .mv (.tmp 17)⟩,
⟨some 70, (some (64, false)), .call 168 .pure [(.tmp 65), (.tmp 66), (.tmp 67), (.tmp 68), (.tmp 69)]⟩,
⟨some 71, (some (60, true)), .pick (.tmp 64) (.val (.bool true)) (.tmp 70)⟩,
⟨some 72, none, .pick (.tmp 60) (.tmp 71) (.val (.bool false))⟩,
⟨some 15, none, .mv (.tmp 72)⟩] [] [1, 9, 10, 11, 12, 13, 14, 15, 36, 37, 38, 53, 54, 55])))
(.reg [⟨some 73, none, .bin .add (.tmp 55) (.val (.int .i64 1))⟩,
⟨some 55, none, .mv (.tmp 73)⟩] [] [1, 9, 10, 11, 12, 13, 14, 15, 36, 37, 38, 53, 54, 55])))))))
(.reg [⟨some 74, none, .mv (.tmp 11)⟩,
⟨some 75, none, .mv (.tmp 13)⟩,
⟨some 76, none, .mv (.tmp 15)⟩,
⟨some 77, none, .mv (.tmp 12)⟩,
⟨some 78, none, .mv (.tmp 77)⟩,
⟨some 79, (some (78, false)), .mv (.tmp 15)⟩,
⟨some 80, none, .pick (.tmp 78) (.val (.bool true)) (.tmp 79)⟩,
⟨some 81, none, .iaS 1 (.tmp 74) (.tmp 75)⟩,
⟨none, none, .st 1 (.tmp 81) (.tmp 76)⟩,
⟨some 12, none, .mv (.tmp 80)⟩] [] [1, 9, 10, 11, 12, 36, 37, 38]))))))
(.reg [⟨some 82, none, .bin .add (.tmp 38) (.val (.int .i64 1))⟩,
⟨some 38, none, .mv (.tmp 82)⟩] [] [1, 9, 10, 11, 12, 36, 37, 38])))))))))))))))
(.seq
(.reg [⟨some 83, none, .mv (.tmp 11)⟩,
⟨some 6, none, .mv (.tmp 83)⟩,
⟨some 7, none, .mv (.val (.int .i64 0))⟩] [] [6, 7])
(.ret)))))))⟩
theorem pf154_ok : fnOk Tryz.prog 154 pf154 = true := by kernel_rfl

/-- hinterland/rail.there -/
def pf156 : PFn := ⟨33, 2, [.tmp 4], .seq
(.reg [⟨some 2, none, .boxp 25 (.tmp 0)⟩,
⟨some 3, none, .boxp 54 (.tmp 1)⟩,
⟨some 4, none, .mv (.val (.int .i64 0))⟩] [] [2, 3])
(.seq
(.seq
(.reg [⟨some 8, none, .ld (some 3) (.tmp 3)⟩,
⟨some 9, none, .call 170 .pure [(.tmp 8)]⟩,
⟨some 7, none, .mv (.tmp 9)⟩,
⟨some 10, none, .ext 0 (.tmp 7)⟩,
⟨some 11, none, .ext 1 (.tmp 7)⟩,
⟨some 5, none, .zer 54 (.agg [(.int .i64 0), (.int .i64 0), (.int .i64 0)])⟩,
⟨none, none, .st 3 (.tmp 5) (.tmp 10)⟩,
⟨some 6, none, .mv (.tmp 11)⟩] [] [2, 3, 6])
(.seq
(.reg [⟨some 12, none, .mv (.tmp 6)⟩,
⟨some 13, none, .bin .neq (.tmp 12) (.val (.int .i64 0))⟩] [] [2, 3, 6, 13])
(.cond (.tmp 13)
(.seq
(.reg [⟨some 14, none, .mv (.tmp 6)⟩,
⟨some 4, none, .mv (.tmp 14)⟩] [] [4])
(.ret))
(.skip))))
(.seq
(.seq
(.reg [⟨some 15, none, .ld (some 4) (.tmp 2)⟩,
⟨some 16, none, .faddr 0 (.tmp 3)⟩,
⟨some 17, none, .ld none (.tmp 16)⟩,
⟨some 18, none, .call 171 .pure [(.tmp 15), (.tmp 17)]⟩,
⟨some 19, none, .un .not (.tmp 18)⟩,
⟨some 20, none, .mv (.tmp 19)⟩,
⟨some 21, (some (20, false)), .faddr 2 (.tmp 2)⟩,
⟨some 22, (some (20, false)), .ld none (.tmp 21)⟩,
⟨some 23, (some (20, false)), .faddr 0 (.tmp 3)⟩,
⟨some 24, (some (20, false)), .ld none (.tmp 23)⟩,
⟨some 25, (some (20, false)), .iaS 1 (.tmp 22) (.tmp 24)⟩,
⟨some 26, (some (20, false)), .ld none (.tmp 25)⟩,
⟨some 27, (some (20, false)), .faddr 1 (.tmp 3)⟩,
⟨some 28, (some (20, false)), .ld none (.tmp 27)⟩,
⟨some 29, (some (20, false)), .bin .shr (.tmp 26) (.tmp 28)⟩,
⟨some 30, (some (20, false)), .bin .and (.tmp 29) (.val (.int .i64 1))⟩,
⟨some 31, (some (20, false)), .bin .eql (.tmp 30) (.val (.int .i64 0))⟩,
⟨some 32, none, .pick (.tmp 20) (.val (.bool true)) (.tmp 31)⟩] [] [32])
(.cond (.tmp 32)
(.seq
(.reg [⟨some 4, none, .mv (.val (.int .i64 2))⟩] [] [4])
(.ret))
(.skip)))
(.seq
(.reg [⟨some 4, none, .mv (.val (.int .i64 0))⟩] [] [4])
(.ret))))⟩
theorem pf156_ok : fnOk Tryz.prog 156 pf156 = true := by kernel_rfl

/-- hinterland/rail.beside -/
def pf157 : PFn := ⟨54, 4, [.tmp 8, .tmp 9], .seq
(.reg [⟨some 8, none, .mv (.val (.int .i64 0))⟩,
⟨some 9, none, .mv (.val (.bool false))⟩] [] [0, 1, 2, 3])
(.seq
(.reg [⟨some 12, none, .mv (.tmp 2)⟩,
⟨some 13, none, .mv (.tmp 0)⟩,
⟨some 14, none, .bin .rem (.tmp 12) (.tmp 13)⟩,
⟨some 15, none, .mv (.tmp 2)⟩,
⟨some 16, none, .mv (.tmp 0)⟩,
⟨some 17, none, .bin .quo (.tmp 15) (.tmp 16)⟩,
⟨some 10, none, .mv (.tmp 14)⟩,
⟨some 11, none, .mv (.tmp 17)⟩] [] [0, 1, 3, 10, 11])
(.seq
(.seq
(.reg [⟨some 18, none, .mv (.tmp 3)⟩] [] [0, 1, 3, 10, 11, 18])
(.blk 0 (.seq
(.seq
(.reg [⟨some 20, none, .bin .eql (.tmp 18) (.val (.int .i64 0))⟩,
⟨some 19, none, .mv (.tmp 20)⟩] [] [0, 1, 3, 10, 11, 18, 19])
(.cond (.tmp 19)
(.skip)
(.reg [⟨some 21, none, .bin .eql (.tmp 18) (.val (.int .i64 2))⟩,
⟨some 19, none, .mv (.tmp 21)⟩] [] [0, 1, 3, 10, 11, 18, 19])))
(.cond (.tmp 19)
(.reg [⟨some 22, none, .mv (.tmp 10)⟩,
⟨some 23, none, .mv (.tmp 3)⟩,
⟨some 24, none, .bin .sub (.val (.int .i64 1)) (.tmp 23)⟩,
⟨some 25, none, .bin .add (.tmp 22) (.tmp 24)⟩,
⟨some 10, none, .mv (.tmp 25)⟩] [] [0, 1, 10, 11])
(.seq
(.seq
(.reg [⟨some 27, none, .bin .eql (.tmp 18) (.val (.int .i64 1))⟩,
⟨some 26, none, .mv (.tmp 27)⟩] [] [0, 1, 3, 10, 11, 18, 26])
(.cond (.tmp 26)
(.skip)
(.reg [⟨some 28, none, .bin .eql (.tmp 18) (.val (.int .i64 3))⟩,
⟨some 26, none, .mv (.tmp 28)⟩] [] [0, 1, 3, 10, 11, 26])))
(.cond (.tmp 26)
(.reg [⟨some 29, none, .mv (.tmp 11)⟩,
⟨some 30, none, .mv (.tmp 3)⟩,
⟨some 31, none, .bin .sub (.val (.int .i64 2)) (.tmp 30)⟩,
⟨some 32, none, .bin .add (.tmp 29) (.tmp 31)⟩,
⟨some 11, none, .mv (.tmp 32)⟩] [] [0, 1, 10, 11])
(.skip)))))))
(.seq
(.reg [⟨some 33, none, .mv (.tmp 11)⟩,
⟨some 34, none, .mv (.tmp 0)⟩,
⟨some 35, none, .bin .mul (.tmp 33) (.tmp 34)⟩,
⟨some 36, none, .mv (.tmp 10)⟩,
⟨some 37, none, .bin .add (.tmp 35) (.tmp 36)⟩,
⟨some 38, none, .mv (.tmp 10)⟩,
⟨some 39, none, .bin .geq (.tmp 38) (.val (.int .i64 0))⟩,
⟨some 40, none, .mv (.tmp 39)⟩,
⟨some 41, (some (40, true)), .mv (.tmp 10)⟩,
⟨some 42, (some (40, true)), .mv (.tmp 0)⟩,
⟨some 43, (some (40, true)), .bin .lss (.tmp 41) (.tmp 42)⟩,
⟨some 44, none, .pick (.tmp 40) (.tmp 43) (.val (.bool false))⟩,
⟨some 45, none, .mv (.tmp 44)⟩,
⟨some 46, (some (45, true)), .mv (.tmp 11)⟩,
⟨some 47, (some (45, true)), .bin .geq (.tmp 46) (.val (.int .i64 0))⟩,
⟨some 48, none, .pick (.tmp 45) (.tmp 47) (.val (.bool false))⟩,
⟨some 49, none, .mv (.tmp 48)⟩,
⟨some 50, (some (49, true)), .mv (.tmp 11)⟩,
⟨some 51, (some (49, true)), .mv (.tmp 1)⟩,
⟨some 52, (some (49, true)), .bin .lss (.tmp 50) (.tmp 51)⟩,
⟨some 53, none, .pick (.tmp 49) (.tmp 52) (.val (.bool false))⟩,
⟨some 8, none, .mv (.tmp 37)⟩,
⟨some 9, none, .mv (.tmp 53)⟩] [] [8, 9])
(.ret))))⟩
theorem pf157_ok : fnOk Tryz.prog 157 pf157 = true := by kernel_rfl

/-- hinterland/rail.other -/
def pf158 : PFn := ⟨28, 2, [.tmp 4, .tmp 5], .seq
(.reg [⟨some 4, none, .mv (.val (.int .i64 0))⟩,
⟨some 5, none, .mv (.val (.bool false))⟩] [] [0, 1])
(.seq
(.reg [⟨some 10, none, .mv (.tmp 0)⟩,
⟨some 11, none, .call 149 .pure [(.tmp 10)]⟩,
⟨some 9, none, .mv (.tmp 11)⟩,
⟨some 12, none, .ext 0 (.tmp 9)⟩,
⟨some 13, none, .ext 1 (.tmp 9)⟩,
⟨some 14, none, .ext 2 (.tmp 9)⟩,
⟨some 6, none, .mv (.tmp 12)⟩,
⟨some 7, none, .mv (.tmp 13)⟩,
⟨some 8, none, .mv (.tmp 14)⟩] [] [1, 6, 7, 8])
(.seq
(.blk 0 (.seq
(.reg [⟨some 16, none, .mv (.tmp 8)⟩,
⟨some 17, none, .bin .neq (.tmp 16) (.val (.int .i64 0))⟩,
⟨some 15, none, .mv (.tmp 17)⟩] [] [1, 6, 7, 15])
(.cond (.tmp 15)
(.seq
(.reg [⟨some 4, none, .mv (.val (.int .i64 0))⟩,
⟨some 5, none, .mv (.val (.bool false))⟩] [] [4, 5])
(.ret))
(.seq
(.reg [⟨some 19, none, .mv (.tmp 1)⟩,
⟨some 20, none, .mv (.tmp 6)⟩,
⟨some 21, none, .bin .eql (.tmp 19) (.tmp 20)⟩,
⟨some 18, none, .mv (.tmp 21)⟩] [] [1, 6, 7, 18])
(.cond (.tmp 18)
(.seq
(.reg [⟨some 22, none, .mv (.tmp 7)⟩,
⟨some 4, none, .mv (.tmp 22)⟩,
⟨some 5, none, .mv (.val (.bool true))⟩] [] [4, 5])
(.ret))
(.seq
(.reg [⟨some 24, none, .mv (.tmp 1)⟩,
⟨some 25, none, .mv (.tmp 7)⟩,
⟨some 26, none, .bin .eql (.tmp 24) (.tmp 25)⟩,
⟨some 23, none, .mv (.tmp 26)⟩] [] [6, 23])
(.cond (.tmp 23)
(.seq
(.reg [⟨some 27, none, .mv (.tmp 6)⟩,
⟨some 4, none, .mv (.tmp 27)⟩,
⟨some 5, none, .mv (.val (.bool true))⟩] [] [4, 5])
(.ret))
(.skip))))))))
(.seq
(.reg [⟨some 4, none, .mv (.val (.int .i64 0))⟩,
⟨some 5, none, .mv (.val (.bool false))⟩] [] [4, 5])
(.ret))))⟩
theorem pf158_ok : fnOk Tryz.prog 158 pf158 = true := by kernel_rfl

/-- slices.pdqsortCmpFunc[hinterland/api.Spot] -/
def pf159 : PFn := ⟨148, 5, [], .seq
(.reg [⟨some 10, none, .mv (.val (.bool true))⟩] [] [0, 1, 2, 3, 4, 10])
(.seq
(.reg [⟨some 11, none, .mv (.val (.bool true))⟩] [] [0, 1, 2, 3, 4, 10, 11])
(.blk 0 (.loop (.blk 1 (.seq
(.reg [⟨some 21, none, .mv (.tmp 2)⟩,
⟨some 22, none, .mv (.tmp 1)⟩,
⟨some 23, none, .bin .sub (.tmp 21) (.tmp 22)⟩,
⟨some 12, none, .mv (.tmp 23)⟩] [] [0, 1, 2, 3, 4, 10, 11, 12])
(.seq
(.seq
(.reg [⟨some 24, none, .mv (.tmp 12)⟩,
⟨some 25, none, .bin .leq (.tmp 24) (.val (.int .i64 12))⟩] [] [0, 1, 2, 3, 4, 10, 11, 12, 25])
(.cond (.tmp 25)
(.seq
(.reg [⟨some 26, none, .mv (.tmp 0)⟩,
⟨some 27, none, .mv (.tmp 1)⟩,
⟨some 28, none, .mv (.tmp 2)⟩,
⟨some 29, none, .mv (.tmp 4)⟩,
⟨some 30, none, .call 172 .opn [(.tmp 26), (.tmp 27), (.tmp 28), (.tmp 29)]⟩] [] [])
(.ret))
(.skip)))
(.seq
(.seq
(.reg [⟨some 31, none, .mv (.tmp 3)⟩,
⟨some 32, none, .bin .eql (.tmp 31) (.val (.int .i64 0))⟩] [] [0, 1, 2, 3, 4, 10, 11, 12, 32])
(.cond (.tmp 32)
(.seq
(.reg [⟨some 33, none, .mv (.tmp 0)⟩,
⟨some 34, none, .mv (.tmp 1)⟩,
⟨some 35, none, .mv (.tmp 2)⟩,
⟨some 36, none, .mv (.tmp 4)⟩,
⟨some 37, none, .call 173 .opn [(.tmp 33), (.tmp 34), (.tmp 35), (.tmp 36)]⟩] [] [])
(.ret))
(.skip)))
(.seq
(.seq
(.reg [⟨some 38, none, .mv (.tmp 10)⟩,
⟨some 39, none, .un .not (.tmp 38)⟩] [] [0, 1, 2, 3, 4, 10, 11, 12, 39])
(.cond (.tmp 39)
(.seq
(.reg [⟨some 40, none, .mv (.tmp 0)⟩,
⟨some 41, none, .mv (.tmp 1)⟩,
⟨some 42, none, .mv (.tmp 2)⟩,
⟨some 43, none, .mv (.tmp 4)⟩,
⟨some 44, none, .call 174 .opn [(.tmp 40), (.tmp 41), (.tmp 42), (.tmp 43)]⟩] [] [0, 1, 2, 3, 4, 10, 11, 12])
(.reg [⟨some 45, none, .mv (.tmp 3)⟩,
⟨some 46, none, .bin .sub (.tmp 45) (.val (.int .i64 1))⟩,
⟨some 3, none, .mv (.tmp 46)⟩] [] [0, 1, 2, 3, 4, 10, 11, 12]))
(.skip)))
(.seq
(.reg [⟨some 48, none, .mv (.tmp 0)⟩,
⟨some 49, none, .mv (.tmp 1)⟩,
⟨some 50, none, .mv (.tmp 2)⟩,
⟨some 51, none, .mv (.tmp 4)⟩,
⟨some 52, none, .call 175 .pure [(.tmp 48), (.tmp 49), (.tmp 50), (.tmp 51)]⟩,
⟨some 47, none, .mv (.tmp 52)⟩,
⟨some 53, none, .ext 0 (.tmp 47)⟩,
⟨some 54, none, .ext 1 (.tmp 47)⟩,
⟨some 13, none, .mv (.tmp 53)⟩,
⟨some 14, none, .mv (.tmp 54)⟩] [] [0, 1, 2, 3, 4, 10, 11, 12, 13, 14])
(.seq
(.seq
(.reg [⟨some 55, none, .mv (.tmp 14)⟩,
⟨some 56, none, .bin .eql (.tmp 55) (.val (.int .i64 2))⟩] [] [0, 1, 2, 3, 4, 10, 11, 12, 13, 14, 56])
(.cond (.tmp 56)
(.seq
(.reg [⟨some 57, none, .mv (.tmp 0)⟩,
⟨some 58, none, .mv (.tmp 1)⟩,
⟨some 59, none, .mv (.tmp 2)⟩,
⟨some 60, none, .mv (.tmp 4)⟩,
⟨some 61, none, .call 176 .opn [(.tmp 57), (.tmp 58), (.tmp 59), (.tmp 60)]⟩] [] [0, 1, 2, 3, 4, 10, 11, 12, 13])
(.seq
(.reg [⟨some 62, none, .mv (.tmp 2)⟩,
⟨some 63, none, .bin .sub (.tmp 62) (.val (.int .i64 1))⟩,
⟨some 64, none, .mv (.tmp 13)⟩,
⟨some 65, none, .mv (.tmp 1)⟩,
⟨some 66, none, .bin .sub (.tmp 64) (.tmp 65)⟩,
⟨some 67, none, .bin .sub (.tmp 63) (.tmp 66)⟩,
⟨some 13, none, .mv (.tmp 67)⟩] [] [0, 1, 2, 3, 4, 10, 11, 12, 13])
(.reg [⟨some 14, none, .mv (.val (.int .i64 1))⟩] [] [0, 1, 2, 3, 4, 10, 11, 12, 13, 14])))
(.skip)))
(.seq
(.seq
(.reg [⟨some 68, none, .mv (.tmp 10)⟩,
⟨some 69, none, .mv (.tmp 68)⟩,
⟨some 70, (some (69, true)), .mv (.tmp 11)⟩,
⟨some 71, none, .pick (.tmp 69) (.tmp 70) (.val (.bool false))⟩,
⟨some 72, none, .mv (.tmp 71)⟩,
⟨some 73, (some (72, true)), .mv (.tmp 14)⟩,
⟨some 74, (some (72, true)), .bin .eql (.tmp 73) (.val (.int .i64 1))⟩,
⟨some 75, none, .pick (.tmp 72) (.tmp 74) (.val (.bool false))⟩] [] [0, 1, 2, 3, 4, 10, 11, 12, 13, 75])
(.cond (.tmp 75)
(.seq
(.reg [⟨some 76, none, .mv (.tmp 0)⟩,
⟨some 77, none, .mv (.tmp 1)⟩,
⟨some 78, none, .mv (.tmp 2)⟩,
⟨some 79, none, .mv (.tmp 4)⟩,
⟨some 80, none, .call 177 .opn [(.tmp 76), (.tmp 77), (.tmp 78), (.tmp 79)]⟩] [] [0, 1, 2, 3, 4, 10, 11, 12, 13, 80])
(.cond (.tmp 80)
(.ret)
(.skip)))
(.skip)))
(.seq
(.seq
(.reg [⟨some 81, none, .mv (.tmp 1)⟩,
⟨some 82, none, .bin .gtr (.tmp 81) (.val (.int .i64 0))⟩,
⟨some 83, none, .mv (.tmp 82)⟩,
⟨some 84, (some (83, true)), .mv (.tmp 4)⟩,
⟨some 85, (some (83, true)), .mv (.tmp 0)⟩,
⟨some 86, (some (83, true)), .mv (.tmp 1)⟩,
⟨some 87, (some (83, true)), .bin .sub (.tmp 86) (.val (.int .i64 1))⟩,
⟨some 88, (some (83, true)), .iaS 3 (.tmp 85) (.tmp 87)⟩,
⟨some 89, (some (83, true)), .ld (some 3) (.tmp 88)⟩,
⟨some 90, (some (83, true)), .mv (.tmp 0)⟩,
⟨some 91, (some (83, true)), .mv (.tmp 13)⟩,
⟨some 92, (some (83, true)), .iaS 3 (.tmp 90) (.tmp 91)⟩,
⟨some 93, (some (83, true)), .ld (some 3) (.tmp 92)⟩,
⟨some 94, (some (83, true)), .callv (.tmp 84) .pure [(.tmp 89), (.tmp 93)]⟩,
⟨some 95, (some (83, true)), .bin .lss (.tmp 94) (.val (.int .i64 0))⟩,
⟨some 96, (some (83, true)), .un .not (.tmp 95)⟩,
⟨some 97, none, .pick (.tmp 83) (.tmp 96) (.val (.bool false))⟩] [] [0, 1, 2, 3, 4, 10, 11, 12, 13, 97])
(.cond (.tmp 97)
(.seq
(.reg [⟨some 98, none, .mv (.tmp 0)⟩,
⟨some 99, none, .mv (.tmp 1)⟩,
⟨some 100, none, .mv (.tmp 2)⟩,
⟨some 101, none, .mv (.tmp 13)⟩,
⟨some 102, none, .mv (.tmp 4)⟩,
⟨some 103, none, .call 178 .opn [(.tmp 98), (.tmp 99), (.tmp 100), (.tmp 101), (.tmp 102)]⟩,
⟨some 15, none, .mv (.tmp 103)⟩] [] [0, 2, 3, 4, 10, 11, 15])
(.seq
(.reg [⟨some 104, none, .mv (.tmp 15)⟩,
⟨some 1, none, .mv (.tmp 104)⟩] [] [0, 1, 2, 3, 4, 10, 11])
(.ext 1)))
(.skip)))
(.seq
(.reg [⟨some 106, none, .mv (.tmp 0)⟩,
⟨some 107, none, .mv (.tmp 1)⟩,
⟨some 108, none, .mv (.tmp 2)⟩,
⟨some 109, none, .mv (.tmp 13)⟩,
⟨some 110, none, .mv (.tmp 4)⟩,
⟨some 111, none, .call 179 .opn [(.tmp 106), (.tmp 107), (.tmp 108), (.tmp 109), (.tmp 110)]⟩,
⟨some 105, none, .mv (.tmp 111)⟩,
⟨some 112, none, .ext 0 (.tmp 105)⟩,
⟨some 113, none, .ext 1 (.tmp 105)⟩,
⟨some 16, none, .mv (.tmp 112)⟩,
⟨some 17, none, .mv (.tmp 113)⟩] [] [0, 1, 2, 3, 4, 12, 16, 17])
(.seq
(.reg [⟨some 114, none, .mv (.tmp 17)⟩,
⟨some 11, none, .mv (.tmp 114)⟩] [] [0, 1, 2, 3, 4, 11, 12, 16])
(.seq
(.reg [⟨some 115, none, .mv (.tmp 16)⟩,
⟨some 116, none, .mv (.tmp 1)⟩,
⟨some 117, none, .bin .sub (.tmp 115) (.tmp 116)⟩,
⟨some 118, none, .mv (.tmp 2)⟩,
⟨some 119, none, .mv (.tmp 16)⟩,
⟨some 120, none, .bin .sub (.tmp 118) (.tmp 119)⟩,
⟨some 18, none, .mv (.tmp 117)⟩,
⟨some 19, none, .mv (.tmp 120)⟩] [] [0, 1, 2, 3, 4, 11, 12, 16, 18, 19])
(.seq
(.reg [⟨some 121, none, .mv (.tmp 12)⟩,
⟨some 122, none, .bin .quo (.tmp 121) (.val (.int .i64 8))⟩,
⟨some 20, none, .mv (.tmp 122)⟩] [] [0, 1, 2, 3, 4, 11, 16, 18, 19, 20])
(.seq
(.reg [⟨some 123, none, .mv (.tmp 18)⟩,
⟨some 124, none, .mv (.tmp 19)⟩,
⟨some 125, none, .bin .lss (.tmp 123) (.tmp 124)⟩] [] [0, 1, 2, 3, 4, 11, 16, 18, 19, 20, 125])
(.cond (.tmp 125)
(.seq
(.reg [⟨some 126, none, .mv (.tmp 18)⟩,
⟨some 127, none, .mv (.tmp 20)⟩,
⟨some 128, none, .bin .geq (.tmp 126) (.tmp 127)⟩,
⟨some 10, none, .mv (.tmp 128)⟩] [] [0, 1, 2, 3, 4, 10, 11, 16])
(.seq
(.reg [⟨some 129, none, .mv (.tmp 0)⟩,
⟨some 130, none, .mv (.tmp 1)⟩,
⟨some 131, none, .mv (.tmp 16)⟩,
⟨some 132, none, .mv (.tmp 3)⟩,
⟨some 133, none, .mv (.tmp 4)⟩,
⟨some 134, none, .call 159 .opn [(.tmp 129), (.tmp 130), (.tmp 131), (.tmp 132), (.tmp 133)]⟩] [] [0, 2, 3, 4, 10, 11, 16])
(.reg [⟨some 135, none, .mv (.tmp 16)⟩,
⟨some 136, none, .bin .add (.tmp 135) (.val (.int .i64 1))⟩,
⟨some 1, none, .mv (.tmp 136)⟩] [] [0, 1, 2, 3, 4, 10, 11])))
(.seq
(.reg [⟨some 137, none, .mv (.tmp 19)⟩,
⟨some 138, none, .mv (.tmp 20)⟩,
⟨some 139, none, .bin .geq (.tmp 137) (.tmp 138)⟩,
⟨some 10, none, .mv (.tmp 139)⟩] [] [0, 1, 2, 3, 4, 10, 11, 16])
(.seq
(.reg [⟨some 140, none, .mv (.tmp 0)⟩,
⟨some 141, none, .mv (.tmp 16)⟩,
⟨some 142, none, .bin .add (.tmp 141) (.val (.int .i64 1))⟩,
⟨some 143, none, .mv (.tmp 2)⟩,
⟨some 144, none, .mv (.tmp 3)⟩,
⟨some 145, none, .mv (.tmp 4)⟩,
⟨some 146, none, .call 159 .opn [(.tmp 140), (.tmp 142), (.tmp 143), (.tmp 144), (.tmp 145)]⟩] [] [0, 1, 3, 4, 10, 11, 16])
(.reg [⟨some 147, none, .mv (.tmp 16)⟩,
⟨some 2, none, .mv (.tmp 147)⟩] [] [0, 1, 2, 3, 4, 10, 11])))))))))))))))))))))⟩
theorem pf159_ok : fnOk Tryz.prog 159 pf159 = true := by kernel_rfl

/-- math/bits.Len -/
def pf160 : PFn := ⟨8, 1, [.tmp 2], .seq
(.reg [⟨some 2, none, .mv (.val (.int .i64 0))⟩] [] [0])
(.seq
(.cond (.val (.bool false))
(.seq
(.reg [⟨some 3, none, .mv (.tmp 0)⟩,
⟨some 4, none, .conv .u32 (.tmp 3)⟩,
⟨some 5, none, .call 180 .pure [(.tmp 4)]⟩,
⟨some 2, none, .mv (.tmp 5)⟩] [] [2])
(.ret))
(.skip))
(.seq
(.reg [⟨some 6, none, .mv (.tmp 0)⟩,
⟨some 7, none, .call 181 .pure [(.tmp 6)]⟩,
⟨some 2, none, .mv (.tmp 7)⟩] [] [2])
(.ret)))⟩
theorem pf160_ok : fnOk Tryz.prog 160 pf160 = true := by kernel_rfl

/-- hinterland/block.parts -/
def pf162 : PFn := ⟨47, 1, [.tmp 2], .seq
(.reg [⟨some 2, none, .mv (.val (.list .nil 2 []))⟩] [] [0])
(.seq
(.reg [⟨some 3, none, .nacc 179 2⟩] [] [0, 3])
(.seq
(.reg [⟨some 8, none, .mkm none⟩,
⟨some 4, none, .mv (.tmp 8)⟩] [] [0, 3, 4])
(.seq
(.seq
(.reg [⟨some 9, none, .mv (.tmp 0)⟩,
⟨some 10, none, .len (.tmp 9)⟩,
⟨some 11, none, .mv (.val (.int .i64 0))⟩] [] [3, 4, 9, 10, 11])
(.blk 0 (.loop (.seq
(.reg [⟨some 12, none, .bin .lss (.tmp 11) (.tmp 10)⟩] [] [3, 4, 9, 10, 11, 12])
(.seq
(.cond (.tmp 12)
(.skip)
(.ext 0))
(.seq
(.blk 1 (.seq
(.reg [⟨some 13, none, .mv (.tmp 11)⟩,
⟨some 14, none, .iaS 1 (.tmp 9) (.tmp 11)⟩,
⟨some 15, none, .ld none (.tmp 14)⟩,
⟨some 5, none, .mv (.tmp 13)⟩,
⟨some 6, none, .mv (.tmp 15)⟩] [] [3, 4, 5, 6, 9, 10, 11])
(.seq
(.seq
(.reg [⟨some 16, none, .mv (.tmp 6)⟩,
⟨some 17, none, .bin .lss (.tmp 16) (.val (.int .i64 0))⟩] [] [3, 4, 5, 6, 9, 10, 11, 17])
(.cond (.tmp 17)
(.ext 1)
(.skip)))
(.seq
(.seq
(.reg [⟨some 18, none, .mv (.tmp 6)⟩,
⟨some 19, none, .mv (.tmp 5)⟩,
⟨some 20, none, .bin .eql (.tmp 18) (.tmp 19)⟩] [] [3, 4, 5, 6, 9, 10, 11, 20])
(.cond (.tmp 20)
(.seq
(.reg [⟨some 21, none, .mv (.tmp 4)⟩,
⟨some 22, none, .mv (.tmp 6)⟩,
⟨some 23, none, .mv (.tmp 3)⟩,
⟨some 24, none, .len (.tmp 23)⟩,
⟨none, none, .mup none (.tmp 21) (.tmp 22) (.tmp 24)⟩] [] [3, 4, 5, 6, 9, 10, 11])
(.reg [⟨some 25, none, .mv (.tmp 3)⟩,
⟨some 26, none, .mv (.tmp 6)⟩,
⟨some 27, none, .bld [(.int .i64 0), (.list .nil 1 [])] [(0, 1, (.tmp 26))]⟩,
⟨some 28, none, .bsl 1 2 [(.int .i64 0), (.list .nil 1 [])] [(0, 2, (.tmp 27))]⟩,
⟨some 29, none, .app 179 2 32 (.tmp 25) (.tmp 28)⟩,
⟨some 3, none, .mv (.tmp 29)⟩] [] [3, 4, 5, 6, 9, 10, 11]))
(.skip)))
(.seq
(.reg [⟨some 30, none, .mv (.tmp 3)⟩,
⟨some 31, none, .mv (.tmp 4)⟩,
⟨some 32, none, .mv (.tmp 6)⟩,
⟨some 33, none, .mlk none (.int .i64 0) false (.tmp 31) (.tmp 32)⟩,
⟨some 34, none, .iaS 2 (.tmp 30) (.tmp 33)⟩,
⟨some 7, none, .mv (.tmp 34)⟩] [] [3, 4, 5, 7, 9, 10, 11])
(.reg [⟨some 35, none, .mv (.tmp 7)⟩,
⟨some 36, none, .mv (.tmp 7)⟩,
⟨some 37, none, .nck (.tmp 36)⟩,
⟨some 38, none, .faddr 1 (.tmp 37)⟩,
⟨some 39, none, .ld none (.tmp 38)⟩,
⟨some 40, none, .mv (.tmp 5)⟩,
⟨some 41, none, .bsl 1 1 [(.int .i64 0)] [(0, 1, (.tmp 40))]⟩,
⟨some 42, none, .app 3 1 8 (.tmp 39) (.tmp 41)⟩,
⟨some 43, none, .nck (.tmp 35)⟩,
⟨some 44, none, .faddr 1 (.tmp 43)⟩,
⟨none, none, .st 1 (.tmp 44) (.tmp 42)⟩] [] [3, 4, 9, 10, 11]))))))
(.reg [⟨some 45, none, .bin .add (.tmp 11) (.val (.int .i64 1))⟩,
⟨some 11, none, .mv (.tmp 45)⟩] [] [3, 4, 9, 10, 11])))))))
(.seq
(.reg [⟨some 46, none, .mv (.tmp 3)⟩,
⟨some 2, none, .mv (.tmp 46)⟩] [] [2])
(.ret)))))⟩
theorem pf162_ok : fnOk Tryz.prog 162 pf162 = true := by kernel_rfl

/-- hinterland/block.numbers -/
def pf163 : PFn := ⟨97, 2, [.tmp 4], .seq
(.reg [⟨some 2, none, .boxp 25 (.tmp 0)⟩,
⟨some 4, none, .mv (.val (.list .nil 1 []))⟩] [] [1, 2])
(.seq
(.reg [⟨some 10, none, .faddr 0 (.tmp 2)⟩,
⟨some 11, none, .ld none (.tmp 10)⟩,
⟨some 12, none, .bin .mul (.val (.int .i64 8)) (.tmp 11)⟩,
⟨some 13, none, .faddr 1 (.tmp 2)⟩,
⟨some 14, none, .ld none (.tmp 13)⟩,
⟨some 15, none, .bin .mul (.tmp 12) (.tmp 14)⟩,
⟨some 16, none, .mks 3 1 8 [(.int .i64 0)] (.tmp 15) (.tmp 15)⟩,
⟨some 5, none, .mv (.tmp 16)⟩] [] [1, 2, 5])
(.seq
(.seq
(.reg [⟨some 17, none, .mv (.tmp 5)⟩,
⟨some 18, none, .len (.tmp 17)⟩,
⟨some 19, none, .mv (.val (.int .i64 0))⟩] [] [1, 2, 5, 18, 19])
(.blk 0 (.loop (.seq
(.reg [⟨some 20, none, .bin .lss (.tmp 19) (.tmp 18)⟩] [] [1, 2, 5, 18, 19, 20])
(.seq
(.cond (.tmp 20)
(.skip)
(.ext 0))
(.seq
(.blk 1 (.seq
(.reg [⟨some 21, none, .mv (.tmp 19)⟩,
⟨some 6, none, .mv (.tmp 21)⟩] [] [1, 2, 5, 6, 18, 19])
(.reg [⟨some 22, none, .mv (.tmp 5)⟩,
⟨some 23, none, .mv (.tmp 6)⟩,
⟨some 24, none, .mv (.tmp 6)⟩,
⟨some 25, none, .iaS 1 (.tmp 22) (.tmp 23)⟩,
⟨none, none, .st 1 (.tmp 25) (.tmp 24)⟩] [] [1, 2, 5, 18, 19])))
(.reg [⟨some 26, none, .bin .add (.tmp 19) (.val (.int .i64 1))⟩,
⟨some 19, none, .mv (.tmp 26)⟩] [] [1, 2, 5, 18, 19])))))))
(.seq
(.seq
(.reg [⟨some 27, none, .faddr 0 (.tmp 2)⟩,
⟨some 28, none, .ld none (.tmp 27)⟩,
⟨some 29, none, .faddr 1 (.tmp 2)⟩,
⟨some 30, none, .ld none (.tmp 29)⟩,
⟨some 31, none, .bin .mul (.tmp 28) (.tmp 30)⟩,
⟨some 32, none, .mv (.val (.int .i64 0))⟩] [] [1, 2, 5, 31, 32])
(.blk 2 (.loop (.seq
(.reg [⟨some 33, none, .bin .lss (.tmp 32) (.tmp 31)⟩] [] [1, 2, 5, 31, 32, 33])
(.seq
(.cond (.tmp 33)
(.skip)
(.ext 2))
(.seq
(.blk 3 (.seq
(.reg [⟨some 34, none, .mv (.tmp 32)⟩,
⟨some 7, none, .mv (.tmp 34)⟩] [] [1, 2, 5, 7, 31, 32])
(.seq
(.reg [⟨some 35, none, .ld (some 4) (.tmp 2)⟩,
⟨some 36, none, .mv (.tmp 5)⟩,
⟨some 37, none, .mv (.tmp 7)⟩,
⟨some 38, none, .call 182 .opn [(.tmp 35), (.tmp 36), (.tmp 37)]⟩] [] [1, 2, 5, 7, 31, 32])
(.seq
(.seq
(.reg [⟨some 39, none, .mv (.tmp 7)⟩,
⟨some 40, none, .faddr 0 (.tmp 2)⟩,
⟨some 41, none, .ld none (.tmp 40)⟩,
⟨some 42, none, .bin .rem (.tmp 39) (.tmp 41)⟩,
⟨some 43, none, .faddr 0 (.tmp 2)⟩,
⟨some 44, none, .ld none (.tmp 43)⟩,
⟨some 45, none, .bin .sub (.tmp 44) (.val (.int .i64 1))⟩,
⟨some 46, none, .bin .lss (.tmp 42) (.tmp 45)⟩] [] [1, 2, 5, 7, 31, 32, 46])
(.cond (.tmp 46)
(.reg [⟨some 47, none, .ld (some 4) (.tmp 2)⟩,
⟨some 48, none, .mv (.tmp 1)⟩,
⟨some 49, none, .mv (.tmp 5)⟩,
⟨some 50, none, .mv (.tmp 7)⟩,
⟨some 51, none, .mv (.tmp 7)⟩,
⟨some 52, none, .bin .add (.tmp 51) (.val (.int .i64 1))⟩,
⟨some 53, none, .call 183 .opn [(.tmp 47), (.tmp 48), (.tmp 49), (.tmp 50), (.val (.int .i64 0)), (.tmp 52)]⟩] [] [1, 2, 5, 7, 31, 32])
(.skip)))
(.seq
(.reg [⟨some 54, none, .mv (.tmp 7)⟩,
⟨some 55, none, .faddr 0 (.tmp 2)⟩,
⟨some 56, none, .ld none (.tmp 55)⟩,
⟨some 57, none, .bin .quo (.tmp 54) (.tmp 56)⟩,
⟨some 58, none, .faddr 1 (.tmp 2)⟩,
⟨some 59, none, .ld none (.tmp 58)⟩,
⟨some 60, none, .bin .sub (.tmp 59) (.val (.int .i64 1))⟩,
⟨some 61, none, .bin .lss (.tmp 57) (.tmp 60)⟩] [] [1, 2, 5, 7, 31, 32, 61])
(.cond (.tmp 61)
(.reg [⟨some 62, none, .ld (some 4) (.tmp 2)⟩,
⟨some 63, none, .mv (.tmp 1)⟩,
⟨some 64, none, .mv (.tmp 5)⟩,
⟨some 65, none, .mv (.tmp 7)⟩,
⟨some 66, none, .mv (.tmp 7)⟩,
⟨some 67, none, .faddr 0 (.tmp 2)⟩,
⟨some 68, none, .ld none (.tmp 67)⟩,
⟨some 69, none, .bin .add (.tmp 66) (.tmp 68)⟩,
⟨some 70, none, .call 183 .opn [(.tmp 62), (.tmp 63), (.tmp 64), (.tmp 65), (.val (.int .i64 1)), (.tmp 69)]⟩] [] [1, 2, 5, 31, 32])
(.skip)))))))
(.reg [⟨some 71, none, .bin .add (.tmp 32) (.val (.int .i64 1))⟩,
⟨some 32, none, .mv (.tmp 71)⟩] [] [1, 2, 5, 31, 32])))))))
(.seq
(.reg [⟨some 72, none, .mv (.tmp 5)⟩,
⟨some 73, none, .len (.tmp 72)⟩,
⟨some 74, none, .mks 3 1 8 [(.int .i64 0)] (.tmp 73) (.tmp 73)⟩,
⟨some 8, none, .mv (.tmp 74)⟩] [] [2, 5, 8])
(.seq
(.seq
(.reg [⟨some 75, none, .mv (.tmp 8)⟩,
⟨some 76, none, .len (.tmp 75)⟩,
⟨some 77, none, .mv (.val (.int .i64 0))⟩] [] [2, 5, 8, 76, 77])
(.blk 4 (.loop (.seq
(.reg [⟨some 78, none, .bin .lss (.tmp 77) (.tmp 76)⟩] [] [2, 5, 8, 76, 77, 78])
(.seq
(.cond (.tmp 78)
(.skip)
(.ext 4))
(.seq
(.blk 5 (.seq
(.reg [⟨some 79, none, .mv (.tmp 77)⟩,
⟨some 9, none, .mv (.tmp 79)⟩] [] [2, 5, 8, 9, 76, 77])
(.seq
(.reg [⟨some 80, none, .mv (.tmp 8)⟩,
⟨some 81, none, .mv (.tmp 9)⟩,
⟨some 82, none, .iaS 1 (.tmp 80) (.tmp 81)⟩,
⟨none, none, .st 1 (.tmp 82) (.val (.int .i64 (-1)))⟩] [] [2, 5, 8, 9, 76, 77])
(.seq
(.reg [⟨some 83, none, .ld (some 4) (.tmp 2)⟩,
⟨some 84, none, .mv (.tmp 9)⟩,
⟨some 85, none, .bin .quo (.tmp 84) (.val (.int .i64 8))⟩,
⟨some 86, none, .mv (.tmp 9)⟩,
⟨some 87, none, .bin .rem (.tmp 86) (.val (.int .i64 8))⟩,
⟨some 88, none, .call 106 .pure [(.tmp 83), (.tmp 85), (.tmp 87)]⟩] [] [2, 5, 8, 9, 76, 77, 88])
(.cond (.tmp 88)
(.reg [⟨some 89, none, .mv (.tmp 8)⟩,
⟨some 90, none, .mv (.tmp 9)⟩,
⟨some 91, none, .mv (.tmp 5)⟩,
⟨some 92, none, .mv (.tmp 9)⟩,
⟨some 93, none, .call 184 .opn [(.tmp 91), (.tmp 92)]⟩,
⟨some 94, none, .iaS 1 (.tmp 89) (.tmp 90)⟩,
⟨none, none, .st 1 (.tmp 94) (.tmp 93)⟩] [] [2, 5, 8, 76, 77])
(.skip))))))
(.reg [⟨some 95, none, .bin .add (.tmp 77) (.val (.int .i64 1))⟩,
⟨some 77, none, .mv (.tmp 95)⟩] [] [2, 5, 8, 76, 77])))))))
(.seq
(.reg [⟨some 96, none, .mv (.tmp 8)⟩,
⟨some 4, none, .mv (.tmp 96)⟩] [] [4])
(.ret)))))))⟩
theorem pf163_ok : fnOk Tryz.prog 163 pf163 = true := by kernel_rfl

/-- slices.pdqsortOrdered[int] -/
def pf164 : PFn := ⟨134, 4, [], .seq
(.reg [⟨some 8, none, .mv (.val (.bool true))⟩] [] [0, 1, 2, 3, 8])
(.seq
(.reg [⟨some 9, none, .mv (.val (.bool true))⟩] [] [0, 1, 2, 3, 8, 9])
(.blk 0 (.loop (.blk 1 (.seq
(.reg [⟨some 19, none, .mv (.tmp 2)⟩,
⟨some 20, none, .mv (.tmp 1)⟩,
⟨some 21, none, .bin .sub (.tmp 19) (.tmp 20)⟩,
⟨some 10, none, .mv (.tmp 21)⟩] [] [0, 1, 2, 3, 8, 9, 10])
(.seq
(.seq
(.reg [⟨some 22, none, .mv (.tmp 10)⟩,
⟨some 23, none, .bin .leq (.tmp 22) (.val (.int .i64 12))⟩] [] [0, 1, 2, 3, 8, 9, 10, 23])
(.cond (.tmp 23)
(.seq
(.reg [⟨some 24, none, .mv (.tmp 0)⟩,
⟨some 25, none, .mv (.tmp 1)⟩,
⟨some 26, none, .mv (.tmp 2)⟩,
⟨some 27, none, .call 185 .opn [(.tmp 24), (.tmp 25), (.tmp 26)]⟩] [] [])
(.ret))
(.skip)))
(.seq
(.seq
(.reg [⟨some 28, none, .mv (.tmp 3)⟩,
⟨some 29, none, .bin .eql (.tmp 28) (.val (.int .i64 0))⟩] [] [0, 1, 2, 3, 8, 9, 10, 29])
(.cond (.tmp 29)
(.seq
(.reg [⟨some 30, none, .mv (.tmp 0)⟩,
⟨some 31, none, .mv (.tmp 1)⟩,
⟨some 32, none, .mv (.tmp 2)⟩,
⟨some 33, none, .call 186 .opn [(.tmp 30), (.tmp 31), (.tmp 32)]⟩] [] [])
(.ret))
(.skip)))
(.seq
(.seq
(.reg [⟨some 34, none, .mv (.tmp 8)⟩,
⟨some 35, none, .un .not (.tmp 34)⟩] [] [0, 1, 2, 3, 8, 9, 10, 35])
(.cond (.tmp 35)
(.seq
(.reg [⟨some 36, none, .mv (.tmp 0)⟩,
⟨some 37, none, .mv (.tmp 1)⟩,
⟨some 38, none, .mv (.tmp 2)⟩,
⟨some 39, none, .call 187 .opn [(.tmp 36), (.tmp 37), (.tmp 38)]⟩] [] [0, 1, 2, 3, 8, 9, 10])
(.reg [⟨some 40, none, .mv (.tmp 3)⟩,
⟨some 41, none, .bin .sub (.tmp 40) (.val (.int .i64 1))⟩,
⟨some 3, none, .mv (.tmp 41)⟩] [] [0, 1, 2, 3, 8, 9, 10]))
(.skip)))
(.seq
(.reg [⟨some 43, none, .mv (.tmp 0)⟩,
⟨some 44, none, .mv (.tmp 1)⟩,
⟨some 45, none, .mv (.tmp 2)⟩,
⟨some 46, none, .call 188 .pure [(.tmp 43), (.tmp 44), (.tmp 45)]⟩,
⟨some 42, none, .mv (.tmp 46)⟩,
⟨some 47, none, .ext 0 (.tmp 42)⟩,
⟨some 48, none, .ext 1 (.tmp 42)⟩,
⟨some 11, none, .mv (.tmp 47)⟩,
⟨some 12, none, .mv (.tmp 48)⟩] [] [0, 1, 2, 3, 8, 9, 10, 11, 12])
(.seq
(.seq
(.reg [⟨some 49, none, .mv (.tmp 12)⟩,
⟨some 50, none, .bin .eql (.tmp 49) (.val (.int .i64 2))⟩] [] [0, 1, 2, 3, 8, 9, 10, 11, 12, 50])
(.cond (.tmp 50)
(.seq
(.reg [⟨some 51, none, .mv (.tmp 0)⟩,
⟨some 52, none, .mv (.tmp 1)⟩,
⟨some 53, none, .mv (.tmp 2)⟩,
⟨some 54, none, .call 189 .opn [(.tmp 51), (.tmp 52), (.tmp 53)]⟩] [] [0, 1, 2, 3, 8, 9, 10, 11])
(.seq
(.reg [⟨some 55, none, .mv (.tmp 2)⟩,
⟨some 56, none, .bin .sub (.tmp 55) (.val (.int .i64 1))⟩,
⟨some 57, none, .mv (.tmp 11)⟩,
⟨some 58, none, .mv (.tmp 1)⟩,
⟨some 59, none, .bin .sub (.tmp 57) (.tmp 58)⟩,
⟨some 60, none, .bin .sub (.tmp 56) (.tmp 59)⟩,
⟨some 11, none, .mv (.tmp 60)⟩] [] [0, 1, 2, 3, 8, 9, 10, 11])
(.reg [⟨some 12, none, .mv (.val (.int .i64 1))⟩] [] [0, 1, 2, 3, 8, 9, 10, 11, 12])))
(.skip)))
(.seq
(.seq
(.reg [⟨some 61, none, .mv (.tmp 8)⟩,
⟨some 62, none, .mv (.tmp 61)⟩,
⟨some 63, (some (62, true)), .mv (.tmp 9)⟩,
⟨some 64, none, .pick (.tmp 62) (.tmp 63) (.val (.bool false))⟩,
⟨some 65, none, .mv (.tmp 64)⟩,
⟨some 66, (some (65, true)), .mv (.tmp 12)⟩,
⟨some 67, (some (65, true)), .bin .eql (.tmp 66) (.val (.int .i64 1))⟩,
⟨some 68, none, .pick (.tmp 65) (.tmp 67) (.val (.bool false))⟩] [] [0, 1, 2, 3, 8, 9, 10, 11, 68])
(.cond (.tmp 68)
(.seq
(.reg [⟨some 69, none, .mv (.tmp 0)⟩,
⟨some 70, none, .mv (.tmp 1)⟩,
⟨some 71, none, .mv (.tmp 2)⟩,
⟨some 72, none, .call 190 .opn [(.tmp 69), (.tmp 70), (.tmp 71)]⟩] [] [0, 1, 2, 3, 8, 9, 10, 11, 72])
(.cond (.tmp 72)
(.ret)
(.skip)))
(.skip)))
(.seq
(.seq
(.reg [⟨some 73, none, .mv (.tmp 1)⟩,
⟨some 74, none, .bin .gtr (.tmp 73) (.val (.int .i64 0))⟩,
⟨some 75, none, .mv (.tmp 74)⟩,
⟨some 76, (some (75, true)), .mv (.tmp 0)⟩,
⟨some 77, (some (75, true)), .mv (.tmp 1)⟩,
⟨some 78, (some (75, true)), .bin .sub (.tmp 77) (.val (.int .i64 1))⟩,
⟨some 79, (some (75, true)), .iaS 1 (.tmp 76) (.tmp 78)⟩,
⟨some 80, (some (75, true)), .ld none (.tmp 79)⟩,
⟨some 81, (some (75, true)), .mv (.tmp 0)⟩,
⟨some 82, (some (75, true)), .mv (.tmp 11)⟩,
⟨some 83, (some (75, true)), .iaS 1 (.tmp 81) (.tmp 82)⟩,
⟨some 84, (some (75, true)), .ld none (.tmp 83)⟩,
⟨some 85, (some (75, true)), .call 191 .pure [(.tmp 80), (.tmp 84)]⟩,
⟨some 86, (some (75, true)), .un .not (.tmp 85)⟩,
⟨some 87, none, .pick (.tmp 75) (.tmp 86) (.val (.bool false))⟩] [] [0, 1, 2, 3, 8, 9, 10, 11, 87])
(.cond (.tmp 87)
(.seq
(.reg [⟨some 88, none, .mv (.tmp 0)⟩,
⟨some 89, none, .mv (.tmp 1)⟩,
⟨some 90, none, .mv (.tmp 2)⟩,
⟨some 91, none, .mv (.tmp 11)⟩,
⟨some 92, none, .call 192 .opn [(.tmp 88), (.tmp 89), (.tmp 90), (.tmp 91)]⟩,
⟨some 13, none, .mv (.tmp 92)⟩] [] [0, 2, 3, 8, 9, 13])
(.seq
(.reg [⟨some 93, none, .mv (.tmp 13)⟩,
⟨some 1, none, .mv (.tmp 93)⟩] [] [0, 1, 2, 3, 8, 9])
(.ext 1)))
(.skip)))
(.seq
(.reg [⟨some 95, none, .mv (.tmp 0)⟩,
⟨some 96, none, .mv (.tmp 1)⟩,
⟨some 97, none, .mv (.tmp 2)⟩,
⟨some 98, none, .mv (.tmp 11)⟩,
⟨some 99, none, .call 193 .opn [(.tmp 95), (.tmp 96), (.tmp 97), (.tmp 98)]⟩,
⟨some 94, none, .mv (.tmp 99)⟩,
⟨some 100, none, .ext 0 (.tmp 94)⟩,
⟨some 101, none, .ext 1 (.tmp 94)⟩,
⟨some 14, none, .mv (.tmp 100)⟩,
⟨some 15, none, .mv (.tmp 101)⟩] [] [0, 1, 2, 3, 10, 14, 15])
(.seq
(.reg [⟨some 102, none, .mv (.tmp 15)⟩,
⟨some 9, none, .mv (.tmp 102)⟩] [] [0, 1, 2, 3, 9, 10, 14])
(.seq
(.reg [⟨some 103, none, .mv (.tmp 14)⟩,
⟨some 104, none, .mv (.tmp 1)⟩,
⟨some 105, none, .bin .sub (.tmp 103) (.tmp 104)⟩,
⟨some 106, none, .mv (.tmp 2)⟩,
⟨some 107, none, .mv (.tmp 14)⟩,
⟨some 108, none, .bin .sub (.tmp 106) (.tmp 107)⟩,
⟨some 16, none, .mv (.tmp 105)⟩,
⟨some 17, none, .mv (.tmp 108)⟩] [] [0, 1, 2, 3, 9, 10, 14, 16, 17])
(.seq
(.reg [⟨some 109, none, .mv (.tmp 10)⟩,
⟨some 110, none, .bin .quo (.tmp 109) (.val (.int .i64 8))⟩,
⟨some 18, none, .mv (.tmp 110)⟩] [] [0, 1, 2, 3, 9, 14, 16, 17, 18])
(.seq
(.reg [⟨some 111, none, .mv (.tmp 16)⟩,
⟨some 112, none, .mv (.tmp 17)⟩,
⟨some 113, none, .bin .lss (.tmp 111) (.tmp 112)⟩] [] [0, 1, 2, 3, 9, 14, 16, 17, 18, 113])
(.cond (.tmp 113)
(.seq
(.reg [⟨some 114, none, .mv (.tmp 16)⟩,
⟨some 115, none, .mv (.tmp 18)⟩,
⟨some 116, none, .bin .geq (.tmp 114) (.tmp 115)⟩,
⟨some 8, none, .mv (.tmp 116)⟩] [] [0, 1, 2, 3, 8, 9, 14])
(.seq
(.reg [⟨some 117, none, .mv (.tmp 0)⟩,
⟨some 118, none, .mv (.tmp 1)⟩,
⟨some 119, none, .mv (.tmp 14)⟩,
⟨some 120, none, .mv (.tmp 3)⟩,
⟨some 121, none, .call 164 .opn [(.tmp 117), (.tmp 118), (.tmp 119), (.tmp 120)]⟩] [] [0, 2, 3, 8, 9, 14])
(.reg [⟨some 122, none, .mv (.tmp 14)⟩,
⟨some 123, none, .bin .add (.tmp 122) (.val (.int .i64 1))⟩,
⟨some 1, none, .mv (.tmp 123)⟩] [] [0, 1, 2, 3, 8, 9])))
(.seq
(.reg [⟨some 124, none, .mv (.tmp 17)⟩,
⟨some 125, none, .mv (.tmp 18)⟩,
⟨some 126, none, .bin .geq (.tmp 124) (.tmp 125)⟩,
⟨some 8, none, .mv (.tmp 126)⟩] [] [0, 1, 2, 3, 8, 9, 14])
(.seq
(.reg [⟨some 127, none, .mv (.tmp 0)⟩,
⟨some 128, none, .mv (.tmp 14)⟩,
⟨some 129, none, .bin .add (.tmp 128) (.val (.int .i64 1))⟩,
⟨some 130, none, .mv (.tmp 2)⟩,
⟨some 131, none, .mv (.tmp 3)⟩,
⟨some 132, none, .call 164 .opn [(.tmp 127), (.tmp 129), (.tmp 130), (.tmp 131)]⟩] [] [0, 1, 3, 8, 9, 14])
(.reg [⟨some 133, none, .mv (.tmp 14)⟩,
⟨some 2, none, .mv (.tmp 133)⟩] [] [0, 1, 2, 3, 8, 9])))))))))))))))))))))⟩
theorem pf164_ok : fnOk Tryz.prog 164 pf164 = true := by kernel_rfl

/-- hinterland/block.askers -/
def pf167 : PFn := ⟨79, 4, [.tmp 8], .seq
(.reg [⟨some 4, none, .boxp 25 (.tmp 0)⟩,
⟨some 8, none, .mv (.val (.list .nil 3 []))⟩] [] [1, 2, 3, 4])
(.seq
(.reg [⟨some 17, none, .mv (.tmp 1)⟩,
⟨some 18, none, .len (.tmp 17)⟩,
⟨some 19, none, .mks 200 3 32 [(.list .nil 1 []), (.bool false), (.bool false)] (.tmp 18) (.tmp 18)⟩,
⟨some 9, none, .mv (.tmp 19)⟩] [] [1, 2, 3, 4, 9])
(.seq
(.seq
(.reg [⟨some 20, none, .mv (.tmp 1)⟩,
⟨some 21, none, .len (.tmp 20)⟩,
⟨some 22, none, .mv (.val (.int .i64 0))⟩] [] [2, 3, 4, 9, 20, 21, 22])
(.blk 0 (.loop (.trim (.seq
(.reg [⟨some 23, none, .bin .lss (.tmp 22) (.tmp 21)⟩] [] [2, 3, 4, 9, 20, 21, 22, 23])
(.seq
(.cond (.tmp 23)
(.skip)
(.ext 0))
(.seq
(.blk 1 (.seq
(.reg [⟨some 24, none, .mv (.tmp 22)⟩,
⟨some 25, none, .iaS 4 (.tmp 20) (.tmp 22)⟩,
⟨some 26, none, .ld (some 4) (.tmp 25)⟩,
⟨some 11, none, .zer 75 (.agg [(.int .i64 0), (.int .i64 0), (.int .i64 0), (.int .i64 0)])⟩,
⟨some 10, none, .mv (.tmp 24)⟩,
⟨none, none, .st 4 (.tmp 11) (.tmp 26)⟩] [] [2, 3, 4, 9, 10, 11, 20, 21, 22])
(.seq
(.reg [⟨some 28, none, .ld (some 4) (.tmp 4)⟩,
⟨some 29, none, .faddr 0 (.tmp 11)⟩,
⟨some 30, none, .ld none (.tmp 29)⟩,
⟨some 31, none, .faddr 1 (.tmp 11)⟩,
⟨some 32, none, .ld none (.tmp 31)⟩,
⟨some 33, none, .faddr 2 (.tmp 11)⟩,
⟨some 34, none, .ld none (.tmp 33)⟩,
⟨some 35, none, .bld [(.int .i64 0), (.int .i64 0), (.int .i64 0)] [(0, 1, (.tmp 30)), (1, 1, (.tmp 32)), (2, 1, (.tmp 34))]⟩,
⟨some 36, none, .call 90 .pure [(.tmp 28), (.tmp 35)]⟩,
⟨some 27, none, .mv (.tmp 36)⟩,
⟨some 37, none, .ext 0 (.tmp 27)⟩,
⟨some 38, none, .ext 1 (.tmp 27)⟩,
⟨some 12, none, .mv (.tmp 37)⟩,
⟨some 13, none, .mv (.tmp 38)⟩] [] [2, 3, 4, 9, 10, 11, 12, 20, 21, 22])
(.seq
(.reg [⟨some 39, none, .mv (.tmp 2)⟩,
⟨some 40, none, .mv (.tmp 12)⟩,
⟨some 41, none, .call 194 .pure [(.tmp 39), (.tmp 40)]⟩,
⟨some 42, none, .faddr 3 (.tmp 11)⟩,
⟨some 43, none, .ld none (.tmp 42)⟩,
⟨some 44, none, .bin .eql (.tmp 43) (.val (.int .i64 1))⟩,
⟨some 45, none, .mv (.tmp 44)⟩,
⟨some 46, (some (45, false)), .faddr 3 (.tmp 11)⟩,
⟨some 47, (some (45, false)), .ld none (.tmp 46)⟩,
⟨some 48, (some (45, false)), .bin .eql (.tmp 47) (.val (.int .i64 3))⟩,
⟨some 49, none, .pick (.tmp 45) (.val (.bool true)) (.tmp 48)⟩,
⟨some 50, none, .bld [(.list .nil 1 []), (.bool false), (.bool false)] [(0, 1, (.tmp 41)), (2, 1, (.tmp 49))]⟩,
⟨some 14, none, .zer 200 (.agg [(.list .nil 1 []), (.bool false), (.bool false)])⟩,
⟨none, none, .st 3 (.tmp 14) (.tmp 50)⟩] [(2, 12), (2, 13), (4, 12), (4, 13), (8, 12), (8, 13)] [2, 3, 4, 9, 10, 14, 20, 21, 22])
(.seq
(.reg [⟨some 51, none, .faddr 0 (.tmp 14)⟩,
⟨some 52, none, .ld none (.tmp 51)⟩,
⟨some 53, none, .len (.tmp 52)⟩,
⟨some 54, none, .bin .gtr (.tmp 53) (.val (.int .i64 0))⟩,
⟨some 55, none, .faddr 1 (.tmp 14)⟩,
⟨none, none, .st 1 (.tmp 55) (.tmp 54)⟩] [] [2, 3, 4, 9, 10, 14, 20, 21, 22])
(.seq
(.seq
(.reg [⟨some 56, none, .faddr 0 (.tmp 14)⟩,
⟨some 57, none, .ld none (.tmp 56)⟩,
⟨some 58, none, .len (.tmp 57)⟩,
⟨some 59, none, .mv (.val (.int .i64 0))⟩] [] [2, 3, 4, 9, 10, 14, 20, 21, 22, 57, 58, 59])
(.blk 2 (.loop (.seq
(.reg [⟨some 60, none, .bin .lss (.tmp 59) (.tmp 58)⟩] [] [2, 3, 4, 9, 10, 14, 20, 21, 22, 57, 58, 59, 60])
(.seq
(.cond (.tmp 60)
(.skip)
(.ext 2))
(.seq
(.blk 3 (.seq
(.reg [⟨some 61, none, .iaS 1 (.tmp 57) (.tmp 59)⟩,
⟨some 62, none, .ld none (.tmp 61)⟩,
⟨some 16, none, .mv (.tmp 62)⟩] [] [2, 3, 4, 9, 10, 14, 16, 20, 21, 22, 57, 58, 59])
(.reg [⟨some 63, none, .faddr 1 (.tmp 14)⟩,
⟨some 64, none, .ld none (.tmp 63)⟩,
⟨some 65, none, .mv (.tmp 64)⟩,
⟨some 66, (some (65, true)), .mv (.tmp 3)⟩,
⟨some 67, (some (65, true)), .mv (.tmp 16)⟩,
⟨some 68, (some (65, true)), .call 79 .pure [(.tmp 66), (.tmp 67)]⟩,
⟨some 69, (some (65, true)), .un .not (.tmp 68)⟩,
⟨some 70, none, .pick (.tmp 65) (.tmp 69) (.val (.bool false))⟩,
⟨some 71, none, .faddr 1 (.tmp 14)⟩,
⟨none, none, .st 1 (.tmp 71) (.tmp 70)⟩] [] [2, 3, 4, 9, 10, 14, 20, 21, 22, 57, 58, 59])))
(.reg [⟨some 72, none, .bin .add (.tmp 59) (.val (.int .i64 1))⟩,
⟨some 59, none, .mv (.tmp 72)⟩] [] [2, 3, 4, 9, 10, 14, 20, 21, 22, 57, 58, 59])))))))
(.reg [⟨some 73, none, .mv (.tmp 9)⟩,
⟨some 74, none, .mv (.tmp 10)⟩,
⟨some 75, none, .ld (some 3) (.tmp 14)⟩,
⟨some 76, none, .iaS 3 (.tmp 73) (.tmp 74)⟩,
⟨none, none, .st 3 (.tmp 76) (.tmp 75)⟩] [] [2, 3, 4, 9, 20, 21, 22])))))))
(.reg [⟨some 77, none, .bin .add (.tmp 22) (.val (.int .i64 1))⟩,
⟨some 22, none, .mv (.tmp 77)⟩] [] [2, 3, 4, 9, 20, 21, 22]))))))))
(.seq
(.reg [⟨some 78, none, .mv (.tmp 9)⟩,
⟨some 8, none, .mv (.tmp 78)⟩] [] [8])
(.ret))))⟩
theorem pf167_ok : fnOk Tryz.prog 167 pf167 = true := by kernel_rfl

/-- hinterland/block.open -/
def pf168 : PFn := ⟨30, 5, [.tmp 10], .seq
(.reg [⟨some 10, none, .mv (.val (.bool false))⟩] [] [0, 1, 2, 3, 4])
(.seq
(.reg [⟨some 11, none, .mv (.val (.bool true))⟩] [] [0, 1, 2, 3, 4, 11])
(.seq
(.seq
(.reg [⟨some 13, none, .mv (.tmp 0)⟩,
⟨some 14, none, .len (.tmp 13)⟩,
⟨some 15, none, .mv (.val (.int .i64 0))⟩] [] [0, 1, 2, 3, 4, 11, 14, 15])
(.blk 0 (.loop (.seq
(.reg [⟨some 16, none, .bin .lss (.tmp 15) (.tmp 14)⟩] [] [0, 1, 2, 3, 4, 11, 14, 15, 16])
(.seq
(.cond (.tmp 16)
(.skip)
(.ext 0))
(.seq
(.blk 1 (.seq
(.reg [⟨some 17, none, .mv (.tmp 15)⟩,
⟨some 12, none, .mv (.tmp 17)⟩] [] [0, 1, 2, 3, 4, 11, 12, 14, 15])
(.seq
(.reg [⟨some 18, none, .mv (.tmp 0)⟩,
⟨some 19, none, .mv (.tmp 1)⟩,
⟨some 20, none, .mv (.tmp 3)⟩,
⟨some 21, none, .mv (.tmp 12)⟩,
⟨some 22, none, .mv (.tmp 4)⟩,
⟨some 23, none, .call 195 .pure [(.tmp 18), (.tmp 19), (.tmp 20), (.tmp 21), (.tmp 22)]⟩] [] [0, 1, 2, 3, 4, 11, 12, 14, 15, 23])
(.cond (.tmp 23)
(.seq
(.seq
(.reg [⟨some 24, none, .mv (.tmp 2)⟩,
⟨some 25, none, .mv (.tmp 12)⟩,
⟨some 26, none, .iaS 1 (.tmp 24) (.tmp 25)⟩,
⟨some 27, none, .ld none (.tmp 26)⟩] [] [0, 1, 2, 3, 4, 14, 15, 27])
(.cond (.tmp 27)
(.seq
(.reg [⟨some 10, none, .mv (.val (.bool true))⟩] [] [10])
(.ret))
(.skip)))
(.reg [⟨some 11, none, .mv (.val (.bool false))⟩] [] [0, 1, 2, 3, 4, 11, 14, 15]))
(.skip)))))
(.reg [⟨some 28, none, .bin .add (.tmp 15) (.val (.int .i64 1))⟩,
⟨some 15, none, .mv (.tmp 28)⟩] [] [0, 1, 2, 3, 4, 11, 14, 15])))))))
(.seq
(.reg [⟨some 29, none, .mv (.tmp 11)⟩,
⟨some 10, none, .mv (.tmp 29)⟩] [] [10])
(.ret))))⟩
theorem pf168_ok : fnOk Tryz.prog 168 pf168 = true := by kernel_rfl

end Go.Proofs.YtiaeckidlmoohaaGreat
