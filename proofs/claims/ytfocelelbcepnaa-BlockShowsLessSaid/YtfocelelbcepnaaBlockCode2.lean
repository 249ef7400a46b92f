/- PCode of functions, written by wip/tools/gen.py out of the loaded functions' print. -/
import Derived.Test.YtfocelelbcepnaaPmTwentyOne
import Derived.Test.YtfocelelbcepnaaProg
import Derived.KernelRfl
set_option maxRecDepth 100000
namespace Go.Proofs.Ytfocelelbcepnaa
open Go.Proofs.Ytfocelelbcepnaa.PM

/-- hinterland/block.parts -/
def pf57 : PFn := ⟨47, 1, [.tmp 2], .seq
  (.reg [⟨some 2, none, .mv (.val (.list .nil 1 []))⟩] [] [0])
  (.seq
  (.reg [⟨some 3, none, .nacc 39 2⟩] [] [0, 3])
  (.seq
  (.reg [⟨some 8, none, .mkm none⟩,
    ⟨some 4, none, .mv (.tmp 8)⟩] [] [0, 3, 4])
  (.seq
  (.seq
  (.reg [⟨some 9, none, .mv (.tmp 0)⟩,
    ⟨some 10, none, .len (.tmp 9)⟩,
    ⟨some 11, none, .mv (.val (.int .i64 0))⟩] [] [3, 4, 9, 10, 11])
  (.blk 0 (.loop (.seq
  (.reg [⟨some 12, none, .bin .lss (.tmp 11) (.tmp 10)⟩] [] [3, 4, 9, 10, 11, 12])
  (.seq
  (.cond (.tmp 12)
  (.skip)
  (.ext 0))
  (.seq
  (.blk 1 (.seq
  (.reg [⟨some 13, none, .mv (.tmp 11)⟩,
    ⟨some 14, none, .iaS 1 (.tmp 9) (.tmp 11)⟩,
    ⟨some 15, none, .ld none (.tmp 14)⟩,
    ⟨some 5, none, .mv (.tmp 13)⟩,
    ⟨some 6, none, .mv (.tmp 15)⟩] [] [3, 4, 5, 6, 9, 10, 11])
  (.seq
  (.seq
  (.reg [⟨some 16, none, .mv (.tmp 6)⟩,
    ⟨some 17, none, .bin .lss (.tmp 16) (.val (.int .i64 0))⟩] [] [3, 4, 5, 6, 9, 10, 11, 17])
  (.cond (.tmp 17)
  (.ext 1)
  (.skip)))
  (.seq
  (.seq
  (.reg [⟨some 18, none, .mv (.tmp 6)⟩,
    ⟨some 19, none, .mv (.tmp 5)⟩,
    ⟨some 20, none, .bin .eql (.tmp 18) (.tmp 19)⟩] [] [3, 4, 5, 6, 9, 10, 11, 20])
  (.cond (.tmp 20)
  (.seq
  (.reg [⟨some 21, none, .mv (.tmp 4)⟩,
    ⟨some 22, none, .mv (.tmp 6)⟩,
    ⟨some 23, none, .mv (.tmp 3)⟩,
    ⟨some 24, none, .len (.tmp 23)⟩,
    ⟨none, none, .mup none (.tmp 21) (.tmp 22) (.tmp 24)⟩] [] [3, 4, 5, 6, 9, 10, 11])
  (.reg [⟨some 25, none, .mv (.tmp 3)⟩,
    ⟨some 26, none, .mv (.tmp 6)⟩,
    ⟨some 27, none, .bld [(.int .i64 0), (.list .nil 1 [])] [(0, 1, (.tmp 26))]⟩,
    ⟨some 28, none, .bsl 1 2 [(.int .i64 0), (.list .nil 1 [])] [(0, 2, (.tmp 27))]⟩,
    ⟨some 29, none, .app 39 2 32 (.tmp 25) (.tmp 28)⟩,
    ⟨some 3, none, .mv (.tmp 29)⟩] [] [3, 4, 5, 6, 9, 10, 11]))
  (.skip)))
  (.seq
  (.reg [⟨some 30, none, .mv (.tmp 3)⟩,
    ⟨some 31, none, .mv (.tmp 4)⟩,
    ⟨some 32, none, .mv (.tmp 6)⟩,
    ⟨some 33, none, .mlk none (.int .i64 0) false (.tmp 31) (.tmp 32)⟩,
    ⟨some 34, none, .iaS 2 (.tmp 30) (.tmp 33)⟩,
    ⟨some 7, none, .mv (.tmp 34)⟩] [] [3, 4, 5, 7, 9, 10, 11])
  (.reg [⟨some 35, none, .mv (.tmp 7)⟩,
    ⟨some 36, none, .mv (.tmp 7)⟩,
    ⟨some 37, none, .nck (.tmp 36)⟩,
    ⟨some 38, none, .faddr 1 (.tmp 37)⟩,
    ⟨some 39, none, .ld none (.tmp 38)⟩,
    ⟨some 40, none, .mv (.tmp 5)⟩,
    ⟨some 41, none, .bsl 1 1 [(.int .i64 0)] [(0, 1, (.tmp 40))]⟩,
    ⟨some 42, none, .app 3 1 8 (.tmp 39) (.tmp 41)⟩,
    ⟨some 43, none, .nck (.tmp 35)⟩,
    ⟨some 44, none, .faddr 1 (.tmp 43)⟩,
    ⟨none, none, .st 1 (.tmp 44) (.tmp 42)⟩] [] [3, 4, 9, 10, 11]))))))
  (.reg [⟨some 45, none, .bin .add (.tmp 11) (.val (.int .i64 1))⟩,
    ⟨some 11, none, .mv (.tmp 45)⟩] [] [3, 4, 9, 10, 11])))))))
  (.seq
  (.reg [⟨some 46, none, .mv (.tmp 3)⟩,
    ⟨some 2, none, .mv (.tmp 46)⟩] [] [2])
  (.ret)))))⟩
theorem pf57_ok : fnOk Try.prog 57 pf57 = true := by kernel_rfl

/-- hinterland/block.numbers -/
def pf58 : PFn := ⟨97, 2, [.tmp 4], .seq
  (.reg [⟨some 2, none, .boxp 25 (.tmp 0)⟩,
    ⟨some 4, none, .mv (.val (.list .nil 1 []))⟩] [] [1, 2])
  (.seq
  (.reg [⟨some 10, none, .faddr 0 (.tmp 2)⟩,
    ⟨some 11, none, .ld none (.tmp 10)⟩,
    ⟨some 12, none, .bin .mul (.val (.int .i64 8)) (.tmp 11)⟩,
    ⟨some 13, none, .faddr 1 (.tmp 2)⟩,
    ⟨some 14, none, .ld none (.tmp 13)⟩,
    ⟨some 15, none, .bin .mul (.tmp 12) (.tmp 14)⟩,
    ⟨some 16, none, .mks 3 1 8 [(.int .i64 0)] (.tmp 15) (.tmp 15)⟩,
    ⟨some 5, none, .mv (.tmp 16)⟩] [] [1, 2, 5])
  (.seq
  (.seq
  (.reg [⟨some 17, none, .mv (.tmp 5)⟩,
    ⟨some 18, none, .len (.tmp 17)⟩,
    ⟨some 19, none, .mv (.val (.int .i64 0))⟩] [] [1, 2, 5, 18, 19])
  (.blk 0 (.loop (.seq
  (.reg [⟨some 20, none, .bin .lss (.tmp 19) (.tmp 18)⟩] [] [1, 2, 5, 18, 19, 20])
  (.seq
  (.cond (.tmp 20)
  (.skip)
  (.ext 0))
  (.seq
  (.blk 1 (.seq
  (.reg [⟨some 21, none, .mv (.tmp 19)⟩,
    ⟨some 6, none, .mv (.tmp 21)⟩] [] [1, 2, 5, 6, 18, 19])
  (.reg [⟨some 22, none, .mv (.tmp 5)⟩,
    ⟨some 23, none, .mv (.tmp 6)⟩,
    ⟨some 24, none, .mv (.tmp 6)⟩,
    ⟨some 25, none, .iaS 1 (.tmp 22) (.tmp 23)⟩,
    ⟨none, none, .st 1 (.tmp 25) (.tmp 24)⟩] [] [1, 2, 5, 18, 19])))
  (.reg [⟨some 26, none, .bin .add (.tmp 19) (.val (.int .i64 1))⟩,
    ⟨some 19, none, .mv (.tmp 26)⟩] [] [1, 2, 5, 18, 19])))))))
  (.seq
  (.seq
  (.reg [⟨some 27, none, .faddr 0 (.tmp 2)⟩,
    ⟨some 28, none, .ld none (.tmp 27)⟩,
    ⟨some 29, none, .faddr 1 (.tmp 2)⟩,
    ⟨some 30, none, .ld none (.tmp 29)⟩,
    ⟨some 31, none, .bin .mul (.tmp 28) (.tmp 30)⟩,
    ⟨some 32, none, .mv (.val (.int .i64 0))⟩] [] [1, 2, 5, 31, 32])
  (.blk 2 (.loop (.seq
  (.reg [⟨some 33, none, .bin .lss (.tmp 32) (.tmp 31)⟩] [] [1, 2, 5, 31, 32, 33])
  (.seq
  (.cond (.tmp 33)
  (.skip)
  (.ext 2))
  (.seq
  (.blk 3 (.seq
  (.reg [⟨some 34, none, .mv (.tmp 32)⟩,
    ⟨some 7, none, .mv (.tmp 34)⟩] [] [1, 2, 5, 7, 31, 32])
  (.seq
  (.reg [⟨some 35, none, .ld (some 4) (.tmp 2)⟩,
    ⟨some 36, none, .mv (.tmp 5)⟩,
    ⟨some 37, none, .mv (.tmp 7)⟩,
    ⟨some 38, none, .call 88 .opn [(.tmp 35), (.tmp 36), (.tmp 37)]⟩] [] [1, 2, 5, 7, 31, 32])
  (.seq
  (.seq
  (.reg [⟨some 39, none, .mv (.tmp 7)⟩,
    ⟨some 40, none, .faddr 0 (.tmp 2)⟩,
    ⟨some 41, none, .ld none (.tmp 40)⟩,
    ⟨some 42, none, .bin .rem (.tmp 39) (.tmp 41)⟩,
    ⟨some 43, none, .faddr 0 (.tmp 2)⟩,
    ⟨some 44, none, .ld none (.tmp 43)⟩,
    ⟨some 45, none, .bin .sub (.tmp 44) (.val (.int .i64 1))⟩,
    ⟨some 46, none, .bin .lss (.tmp 42) (.tmp 45)⟩] [] [1, 2, 5, 7, 31, 32, 46])
  (.cond (.tmp 46)
  (.reg [⟨some 47, none, .ld (some 4) (.tmp 2)⟩,
    ⟨some 48, none, .mv (.tmp 1)⟩,
    ⟨some 49, none, .mv (.tmp 5)⟩,
    ⟨some 50, none, .mv (.tmp 7)⟩,
    ⟨some 51, none, .mv (.tmp 7)⟩,
    ⟨some 52, none, .bin .add (.tmp 51) (.val (.int .i64 1))⟩,
    ⟨some 53, none, .call 89 .opn [(.tmp 47), (.tmp 48), (.tmp 49), (.tmp 50), (.val (.int .i64 0)), (.tmp 52)]⟩] [] [1, 2, 5, 7, 31, 32])
  (.skip)))
  (.seq
  (.reg [⟨some 54, none, .mv (.tmp 7)⟩,
    ⟨some 55, none, .faddr 0 (.tmp 2)⟩,
    ⟨some 56, none, .ld none (.tmp 55)⟩,
    ⟨some 57, none, .bin .quo (.tmp 54) (.tmp 56)⟩,
    ⟨some 58, none, .faddr 1 (.tmp 2)⟩,
    ⟨some 59, none, .ld none (.tmp 58)⟩,
    ⟨some 60, none, .bin .sub (.tmp 59) (.val (.int .i64 1))⟩,
    ⟨some 61, none, .bin .lss (.tmp 57) (.tmp 60)⟩] [] [1, 2, 5, 7, 31, 32, 61])
  (.cond (.tmp 61)
  (.reg [⟨some 62, none, .ld (some 4) (.tmp 2)⟩,
    ⟨some 63, none, .mv (.tmp 1)⟩,
    ⟨some 64, none, .mv (.tmp 5)⟩,
    ⟨some 65, none, .mv (.tmp 7)⟩,
    ⟨some 66, none, .mv (.tmp 7)⟩,
    ⟨some 67, none, .faddr 0 (.tmp 2)⟩,
    ⟨some 68, none, .ld none (.tmp 67)⟩,
    ⟨some 69, none, .bin .add (.tmp 66) (.tmp 68)⟩,
    ⟨some 70, none, .call 89 .opn [(.tmp 62), (.tmp 63), (.tmp 64), (.tmp 65), (.val (.int .i64 1)), (.tmp 69)]⟩] [] [1, 2, 5, 31, 32])
  (.skip)))))))
  (.reg [⟨some 71, none, .bin .add (.tmp 32) (.val (.int .i64 1))⟩,
    ⟨some 32, none, .mv (.tmp 71)⟩] [] [1, 2, 5, 31, 32])))))))
  (.seq
  (.reg [⟨some 72, none, .mv (.tmp 5)⟩,
    ⟨some 73, none, .len (.tmp 72)⟩,
    ⟨some 74, none, .mks 3 1 8 [(.int .i64 0)] (.tmp 73) (.tmp 73)⟩,
    ⟨some 8, none, .mv (.tmp 74)⟩] [] [2, 5, 8])
  (.seq
  (.seq
  (.reg [⟨some 75, none, .mv (.tmp 8)⟩,
    ⟨some 76, none, .len (.tmp 75)⟩,
    ⟨some 77, none, .mv (.val (.int .i64 0))⟩] [] [2, 5, 8, 76, 77])
  (.blk 4 (.loop (.seq
  (.reg [⟨some 78, none, .bin .lss (.tmp 77) (.tmp 76)⟩] [] [2, 5, 8, 76, 77, 78])
  (.seq
  (.cond (.tmp 78)
  (.skip)
  (.ext 4))
  (.seq
  (.blk 5 (.seq
  (.reg [⟨some 79, none, .mv (.tmp 77)⟩,
    ⟨some 9, none, .mv (.tmp 79)⟩] [] [2, 5, 8, 9, 76, 77])
  (.seq
  (.reg [⟨some 80, none, .mv (.tmp 8)⟩,
    ⟨some 81, none, .mv (.tmp 9)⟩,
    ⟨some 82, none, .iaS 1 (.tmp 80) (.tmp 81)⟩,
    ⟨none, none, .st 1 (.tmp 82) (.val (.int .i64 (-1)))⟩] [] [2, 5, 8, 9, 76, 77])
  (.seq
  (.reg [⟨some 83, none, .ld (some 4) (.tmp 2)⟩,
    ⟨some 84, none, .mv (.tmp 9)⟩,
    ⟨some 85, none, .bin .quo (.tmp 84) (.val (.int .i64 8))⟩,
    ⟨some 86, none, .mv (.tmp 9)⟩,
    ⟨some 87, none, .bin .rem (.tmp 86) (.val (.int .i64 8))⟩,
    ⟨some 88, none, .call 54 .pure [(.tmp 83), (.tmp 85), (.tmp 87)]⟩] [] [2, 5, 8, 9, 76, 77, 88])
  (.cond (.tmp 88)
  (.reg [⟨some 89, none, .mv (.tmp 8)⟩,
    ⟨some 90, none, .mv (.tmp 9)⟩,
    ⟨some 91, none, .mv (.tmp 5)⟩,
    ⟨some 92, none, .mv (.tmp 9)⟩,
    ⟨some 93, none, .call 90 .opn [(.tmp 91), (.tmp 92)]⟩,
    ⟨some 94, none, .iaS 1 (.tmp 89) (.tmp 90)⟩,
    ⟨none, none, .st 1 (.tmp 94) (.tmp 93)⟩] [] [2, 5, 8, 76, 77])
  (.skip))))))
  (.reg [⟨some 95, none, .bin .add (.tmp 77) (.val (.int .i64 1))⟩,
    ⟨some 77, none, .mv (.tmp 95)⟩] [] [2, 5, 8, 76, 77])))))))
  (.seq
  (.reg [⟨some 96, none, .mv (.tmp 8)⟩,
    ⟨some 4, none, .mv (.tmp 96)⟩] [] [4])
  (.ret)))))))⟩
theorem pf58_ok : fnOk Try.prog 58 pf58 = true := by kernel_rfl

/-- hinterland/block.number -/
def pf59 : PFn := ⟨9, 2, [.tmp 4], .seq
  (.reg [⟨some 4, none, .mv (.val (.int .i64 0))⟩] [] [0, 1])
  (.seq
  (.reg [⟨some 5, none, .mv (.tmp 0)⟩,
    ⟨some 6, none, .bin .mul (.val (.int .i64 8)) (.tmp 5)⟩,
    ⟨some 7, none, .mv (.tmp 1)⟩,
    ⟨some 8, none, .bin .add (.tmp 6) (.tmp 7)⟩,
    ⟨some 4, none, .mv (.tmp 8)⟩] [] [4])
  (.ret))⟩
theorem pf59_ok : fnOk Try.prog 59 pf59 = true := by kernel_rfl

/-- hinterland/hinterlandref07.at -/
def pf60 : PFn := ⟨42, 4, [.tmp 8], .seq
  (.reg [⟨some 8, none, .mv (.val (.int .i64 0))⟩] [] [0, 1, 2, 3])
  (.seq
  (.seq
  (.reg [⟨some 9, none, .mv (.val (.int .i64 0))⟩] [] [0, 1, 2, 3, 9])
  (.blk 0 (.loop (.seq
  (.seq
  (.reg [⟨some 10, none, .mv (.tmp 9)⟩,
    ⟨some 11, none, .mv (.tmp 0)⟩,
    ⟨some 12, none, .len (.tmp 11)⟩,
    ⟨some 13, none, .bin .lss (.tmp 10) (.tmp 12)⟩] [] [0, 1, 2, 3, 9, 13])
  (.cond (.tmp 13)
  (.skip)
  (.ext 0)))
  (.seq
  (.blk 1 (.seq
  (.reg [⟨some 16, none, .mv (.tmp 0)⟩,
    ⟨some 17, none, .mv (.tmp 9)⟩,
    ⟨some 18, none, .iaS 4 (.tmp 16) (.tmp 17)⟩,
    ⟨some 19, none, .faddr 0 (.tmp 18)⟩,
    ⟨some 20, none, .ld none (.tmp 19)⟩,
    ⟨some 21, none, .mv (.tmp 1)⟩,
    ⟨some 22, none, .bin .eql (.tmp 20) (.tmp 21)⟩,
    ⟨some 23, none, .mv (.tmp 22)⟩,
    ⟨some 24, (some (23, true)), .mv (.tmp 0)⟩,
    ⟨some 25, (some (23, true)), .mv (.tmp 9)⟩,
    ⟨some 26, (some (23, true)), .iaS 4 (.tmp 24) (.tmp 25)⟩,
    ⟨some 27, (some (23, true)), .faddr 1 (.tmp 26)⟩,
    ⟨some 28, (some (23, true)), .ld none (.tmp 27)⟩,
    ⟨some 29, (some (23, true)), .mv (.tmp 2)⟩,
    ⟨some 30, (some (23, true)), .bin .eql (.tmp 28) (.tmp 29)⟩,
    ⟨some 31, none, .pick (.tmp 23) (.tmp 30) (.val (.bool false))⟩,
    ⟨some 32, none, .mv (.tmp 31)⟩,
    ⟨some 33, (some (32, true)), .mv (.tmp 0)⟩,
    ⟨some 34, (some (32, true)), .mv (.tmp 9)⟩,
    ⟨some 35, (some (32, true)), .iaS 4 (.tmp 33) (.tmp 34)⟩,
    ⟨some 36, (some (32, true)), .faddr 2 (.tmp 35)⟩,
    ⟨some 37, (some (32, true)), .ld none (.tmp 36)⟩,
    ⟨some 38, (some (32, true)), .mv (.tmp 3)⟩,
    ⟨some 39, (some (32, true)), .bin .eql (.tmp 37) (.tmp 38)⟩,
    ⟨some 40, none, .pick (.tmp 32) (.tmp 39) (.val (.bool false))⟩] [] [0, 1, 2, 3, 9, 40])
  (.cond (.tmp 40)
  (.seq
  (.reg [⟨some 41, none, .mv (.tmp 9)⟩,
    ⟨some 8, none, .mv (.tmp 41)⟩] [] [8])
  (.ret))
  (.skip))))
  (.reg [⟨some 14, none, .mv (.tmp 9)⟩,
    ⟨some 15, none, .bin .add (.tmp 14) (.val (.int .i64 1))⟩,
    ⟨some 9, none, .mv (.tmp 15)⟩] [] [0, 1, 2, 3, 9]))))))
  (.seq
  (.reg [⟨some 8, none, .mv (.val (.int .i64 (-1)))⟩] [] [8])
  (.ret)))⟩
theorem pf60_ok : fnOk Try.prog 60 pf60 = true := by kernel_rfl

/-- hinterland/block.at -/
def pf61 : PFn := ⟨11, 2, [.tmp 4, .tmp 5], .seq
  (.reg [⟨some 3, none, .boxp 45 (.tmp 1)⟩,
    ⟨some 4, none, .mv (.val (.int .i64 0))⟩,
    ⟨some 5, none, .mv (.val (.bool false))⟩] [] [0, 3])
  (.seq
  (.reg [⟨some 6, none, .mv (.tmp 0)⟩,
    ⟨some 7, none, .ld (some 4) (.tmp 3)⟩,
    ⟨some 8, none, .call 91 .pure [(.tmp 6), (.tmp 7), (.val (.clo (.func 53) [] []))]⟩,
    ⟨some 9, none, .ext 0 (.tmp 8)⟩,
    ⟨some 10, none, .ext 1 (.tmp 8)⟩,
    ⟨some 4, none, .mv (.tmp 9)⟩,
    ⟨some 5, none, .mv (.tmp 10)⟩] [] [4, 5])
  (.ret))⟩
theorem pf61_ok : fnOk Try.prog 61 pf61 = true := by kernel_rfl

/-- slices.Delete[[]hinterland/api.Signal,hinterland/api.Signal] -/
def pf62 : PFn := ⟨33, 3, [.tmp 6], .seq
  (.reg [⟨some 6, none, .mv (.val (.list .nil 1 []))⟩] [] [0, 1, 2])
  (.seq
  (.reg [⟨some 8, none, .mv (.tmp 0)⟩,
    ⟨some 9, none, .mv (.tmp 1)⟩,
    ⟨some 10, none, .mv (.tmp 2)⟩,
    ⟨some 11, none, .mv (.tmp 0)⟩,
    ⟨some 12, none, .len (.tmp 11)⟩,
    ⟨some 13, none, .slc 4 (.tmp 8) (some (.tmp 9)) (some (.tmp 10)) (some (.tmp 12))⟩] [] [0, 1, 2])
  (.seq
  (.seq
  (.reg [⟨some 14, none, .mv (.tmp 1)⟩,
    ⟨some 15, none, .mv (.tmp 2)⟩,
    ⟨some 16, none, .bin .eql (.tmp 14) (.tmp 15)⟩] [] [0, 1, 2, 16])
  (.cond (.tmp 16)
  (.seq
  (.reg [⟨some 17, none, .mv (.tmp 0)⟩,
    ⟨some 6, none, .mv (.tmp 17)⟩] [] [6])
  (.ret))
  (.skip)))
  (.seq
  (.reg [⟨some 18, none, .mv (.tmp 0)⟩,
    ⟨some 19, none, .len (.tmp 18)⟩,
    ⟨some 7, none, .mv (.tmp 19)⟩] [] [0, 1, 2, 7])
  (.seq
  (.reg [⟨some 20, none, .mv (.tmp 0)⟩,
    ⟨some 21, none, .mv (.tmp 1)⟩,
    ⟨some 22, none, .slc 4 (.tmp 20) none (some (.tmp 21)) none⟩,
    ⟨some 23, none, .mv (.tmp 0)⟩,
    ⟨some 24, none, .mv (.tmp 2)⟩,
    ⟨some 25, none, .slc 4 (.tmp 23) (some (.tmp 24)) none none⟩,
    ⟨some 26, none, .app 45 4 32 (.tmp 22) (.tmp 25)⟩,
    ⟨some 0, none, .mv (.tmp 26)⟩] [] [0, 7])
  (.seq
  (.reg [⟨some 27, none, .mv (.tmp 0)⟩,
    ⟨some 28, none, .mv (.tmp 0)⟩,
    ⟨some 29, none, .len (.tmp 28)⟩,
    ⟨some 30, none, .mv (.tmp 7)⟩,
    ⟨some 31, none, .slc 4 (.tmp 27) (some (.tmp 29)) (some (.tmp 30)) none⟩,
    ⟨none, none, .clr 4 [(.int .i64 0), (.int .i64 0), (.int .i64 0), (.int .i64 0)] (.tmp 31)⟩] [] [0])
  (.seq
  (.reg [⟨some 32, none, .mv (.tmp 0)⟩,
    ⟨some 6, none, .mv (.tmp 32)⟩] [] [6])
  (.ret)))))))⟩
theorem pf62_ok : fnOk Try.prog 62 pf62 = true := by kernel_rfl

/-- slices.Clone[[]hinterland/api.Signal,hinterland/api.Signal] -/
def pf63 : PFn := ⟨8, 1, [.tmp 2], .seq
  (.reg [⟨some 2, none, .mv (.val (.list .nil 1 []))⟩] [] [0])
  (.seq
  (.seq
  (.reg [⟨some 3, none, .mv (.tmp 0)⟩,
    ⟨some 4, none, .eqn false (.tmp 3) (.val (.list .nil 1 []))⟩] [] [0, 4])
  (.cond (.tmp 4)
  (.seq
  (.reg [⟨some 2, none, .mv (.val (.list .nil 1 []))⟩] [] [2])
  (.ret))
  (.skip)))
  (.seq
  (.reg [⟨some 5, none, .bsl 0 4 [(.int .i64 0), (.int .i64 0), (.int .i64 0), (.int .i64 0)] []⟩,
    ⟨some 6, none, .mv (.tmp 0)⟩,
    ⟨some 7, none, .app 45 4 32 (.tmp 5) (.tmp 6)⟩,
    ⟨some 2, none, .mv (.tmp 7)⟩] [] [2])
  (.ret)))⟩
theorem pf63_ok : fnOk Try.prog 63 pf63 = true := by kernel_rfl

/-- hinterland/hinterlandref03.Next -/
def pf64 : PFn := ⟨22, 2, [.tmp 4, .tmp 5], .seq
  (.reg [⟨some 2, none, .boxp 25 (.tmp 0)⟩,
    ⟨some 3, none, .boxp 48 (.tmp 1)⟩,
    ⟨some 4, none, .mv (.val (.list .nil 1 []))⟩,
    ⟨some 5, none, .mv (.val (.int .i64 0))⟩] [] [2, 3])
  (.seq
  (.seq
  (.reg [⟨some 8, none, .ld (some 4) (.tmp 2)⟩,
    ⟨some 9, none, .call 49 .pure [(.tmp 8)]⟩,
    ⟨some 6, none, .mv (.tmp 9)⟩] [] [2, 3, 6])
  (.seq
  (.reg [⟨some 10, none, .mv (.tmp 6)⟩,
    ⟨some 11, none, .bin .neq (.tmp 10) (.val (.int .i64 0))⟩] [] [2, 3, 6, 11])
  (.cond (.tmp 11)
  (.seq
  (.reg [⟨some 12, none, .mv (.tmp 6)⟩,
    ⟨some 4, none, .mv (.val (.list .nil 1 []))⟩,
    ⟨some 5, none, .mv (.tmp 12)⟩] [] [4, 5])
  (.ret))
  (.skip))))
  (.seq
  (.seq
  (.reg [⟨some 13, none, .ld (some 4) (.tmp 2)⟩,
    ⟨some 14, none, .ld (some 3) (.tmp 3)⟩,
    ⟨some 15, none, .call 92 .pure [(.tmp 13), (.tmp 14)]⟩,
    ⟨some 7, none, .mv (.tmp 15)⟩] [] [2, 3, 7])
  (.seq
  (.reg [⟨some 16, none, .mv (.tmp 7)⟩,
    ⟨some 17, none, .bin .neq (.tmp 16) (.val (.int .i64 0))⟩] [] [2, 3, 7, 17])
  (.cond (.tmp 17)
  (.seq
  (.reg [⟨some 18, none, .mv (.tmp 7)⟩,
    ⟨some 4, none, .mv (.val (.list .nil 1 []))⟩,
    ⟨some 5, none, .mv (.tmp 18)⟩] [] [4, 5])
  (.ret))
  (.skip))))
  (.seq
  (.reg [⟨some 19, none, .ld (some 4) (.tmp 2)⟩,
    ⟨some 20, none, .ld (some 3) (.tmp 3)⟩,
    ⟨some 21, none, .call 93 .pure [(.tmp 19), (.tmp 20)]⟩,
    ⟨some 4, none, .mv (.tmp 21)⟩,
    ⟨some 5, none, .mv (.val (.int .i64 0))⟩] [] [4, 5])
  (.ret))))⟩
theorem pf64_ok : fnOk Try.prog 64 pf64 = true := by kernel_rfl

/-- hinterland/rail.Next -/
def pf65 : PFn := ⟨17, 2, [.tmp 4, .tmp 5], .seq
  (.reg [⟨some 2, none, .boxp 25 (.tmp 0)⟩,
    ⟨some 3, none, .boxp 48 (.tmp 1)⟩,
    ⟨some 4, none, .mv (.val (.list .nil 1 []))⟩,
    ⟨some 5, none, .mv (.val (.int .i64 0))⟩] [] [2, 3])
  (.seq
  (.seq
  (.reg [⟨some 7, none, .ld (some 4) (.tmp 2)⟩,
    ⟨some 8, none, .ld (some 3) (.tmp 3)⟩,
    ⟨some 9, none, .bsl 1 3 [(.int .i64 0), (.int .i64 0), (.int .i64 0)] [(0, 3, (.tmp 8))]⟩,
    ⟨some 10, none, .call 94 .pure [(.tmp 7), (.tmp 9)]⟩,
    ⟨some 6, none, .mv (.tmp 10)⟩] [] [2, 3, 6])
  (.seq
  (.reg [⟨some 11, none, .mv (.tmp 6)⟩,
    ⟨some 12, none, .bin .neq (.tmp 11) (.val (.int .i64 0))⟩] [] [2, 3, 6, 12])
  (.cond (.tmp 12)
  (.seq
  (.reg [⟨some 13, none, .mv (.tmp 6)⟩,
    ⟨some 4, none, .mv (.val (.list .nil 1 []))⟩,
    ⟨some 5, none, .mv (.tmp 13)⟩] [] [4, 5])
  (.ret))
  (.skip))))
  (.seq
  (.reg [⟨some 14, none, .ld (some 4) (.tmp 2)⟩,
    ⟨some 15, none, .ld (some 3) (.tmp 3)⟩,
    ⟨some 16, none, .call 95 .pure [(.tmp 14), (.tmp 15)]⟩,
    ⟨some 4, none, .mv (.tmp 16)⟩,
    ⟨some 5, none, .mv (.val (.int .i64 0))⟩] [] [4, 5])
  (.ret)))⟩
theorem pf65_ok : fnOk Try.prog 65 pf65 = true := by kernel_rfl

/-- slices.Contains[[]hinterland/api.Spot,hinterland/api.Spot] -/
def pf66 : PFn := ⟨9, 2, [.tmp 4], .seq
  (.reg [⟨some 3, none, .boxp 48 (.tmp 1)⟩,
    ⟨some 4, none, .mv (.val (.bool false))⟩] [] [0, 3])
  (.seq
  (.reg [⟨some 5, none, .mv (.tmp 0)⟩,
    ⟨some 6, none, .ld (some 3) (.tmp 3)⟩,
    ⟨some 7, none, .call 96 .pure [(.tmp 5), (.tmp 6)]⟩,
    ⟨some 8, none, .bin .geq (.tmp 7) (.val (.int .i64 0))⟩,
    ⟨some 4, none, .mv (.tmp 8)⟩] [] [4])
  (.ret))⟩
theorem pf66_ok : fnOk Try.prog 66 pf66 = true := by kernel_rfl

/-- slices.Insert[[]hinterland/api.Signal,hinterland/api.Signal] -/
def pf67 : PFn := ⟨95, 3, [.tmp 6], .seq
  (.reg [⟨some 6, none, .mv (.val (.list .nil 1 []))⟩] [] [0, 1, 2])
  (.seq
  (.reg [⟨some 10, none, .mv (.tmp 0)⟩,
    ⟨some 11, none, .mv (.tmp 1)⟩,
    ⟨some 12, none, .slc 4 (.tmp 10) (some (.tmp 11)) none none⟩] [] [0, 1, 2])
  (.seq
  (.reg [⟨some 13, none, .mv (.tmp 2)⟩,
    ⟨some 14, none, .len (.tmp 13)⟩,
    ⟨some 7, none, .mv (.tmp 14)⟩] [] [0, 1, 2, 7])
  (.seq
  (.seq
  (.reg [⟨some 15, none, .mv (.tmp 7)⟩,
    ⟨some 16, none, .bin .eql (.tmp 15) (.val (.int .i64 0))⟩] [] [0, 1, 2, 7, 16])
  (.cond (.tmp 16)
  (.seq
  (.reg [⟨some 17, none, .mv (.tmp 0)⟩,
    ⟨some 6, none, .mv (.tmp 17)⟩] [] [6])
  (.ret))
  (.skip)))
  (.seq
  (.reg [⟨some 18, none, .mv (.tmp 0)⟩,
    ⟨some 19, none, .len (.tmp 18)⟩,
    ⟨some 8, none, .mv (.tmp 19)⟩] [] [0, 1, 2, 7, 8])
  (.seq
  (.seq
  (.reg [⟨some 20, none, .mv (.tmp 1)⟩,
    ⟨some 21, none, .mv (.tmp 8)⟩,
    ⟨some 22, none, .bin .eql (.tmp 20) (.tmp 21)⟩] [] [0, 1, 2, 7, 8, 22])
  (.cond (.tmp 22)
  (.seq
  (.reg [⟨some 23, none, .mv (.tmp 0)⟩,
    ⟨some 24, none, .mv (.tmp 2)⟩,
    ⟨some 25, none, .app 45 4 32 (.tmp 23) (.tmp 24)⟩,
    ⟨some 6, none, .mv (.tmp 25)⟩] [] [6])
  (.ret))
  (.skip)))
  (.seq
  (.seq
  (.reg [⟨some 26, none, .mv (.tmp 8)⟩,
    ⟨some 27, none, .mv (.tmp 7)⟩,
    ⟨some 28, none, .bin .add (.tmp 26) (.tmp 27)⟩,
    ⟨some 29, none, .mv (.tmp 0)⟩,
    ⟨some 30, none, .bad⟩,
    ⟨some 31, none, .bin .gtr (.tmp 28) (.tmp 30)⟩] [] [0, 1, 2, 7, 8, 31])
  (.cond (.tmp 31)
  (.seq
  (.reg [⟨some 32, none, .mv (.tmp 0)⟩,
    ⟨some 33, none, .mv (.tmp 1)⟩,
    ⟨some 34, none, .slc 4 (.tmp 32) none (some (.tmp 33)) none⟩,
    ⟨some 35, none, .mv (.tmp 8)⟩,
    ⟨some 36, none, .mv (.tmp 7)⟩,
    ⟨some 37, none, .bin .add (.tmp 35) (.tmp 36)⟩,
    ⟨some 38, none, .mv (.tmp 1)⟩,
    ⟨some 39, none, .bin .sub (.tmp 37) (.tmp 38)⟩,
    ⟨some 40, none, .bad⟩,
    ⟨some 9, none, .mv (.tmp 40)⟩] [] [0, 1, 2, 7, 9])
  (.seq
  (.reg [⟨some 41, none, .mv (.tmp 9)⟩,
    ⟨some 42, none, .mv (.tmp 1)⟩,
    ⟨some 43, none, .slc 4 (.tmp 41) (some (.tmp 42)) none none⟩,
    ⟨some 44, none, .mv (.tmp 2)⟩,
    ⟨some 45, none, .bad⟩] [] [0, 1, 7, 9])
  (.seq
  (.reg [⟨some 46, none, .mv (.tmp 9)⟩,
    ⟨some 47, none, .mv (.tmp 1)⟩,
    ⟨some 48, none, .mv (.tmp 7)⟩,
    ⟨some 49, none, .bin .add (.tmp 47) (.tmp 48)⟩,
    ⟨some 50, none, .slc 4 (.tmp 46) (some (.tmp 49)) none none⟩,
    ⟨some 51, none, .mv (.tmp 0)⟩,
    ⟨some 52, none, .mv (.tmp 1)⟩,
    ⟨some 53, none, .slc 4 (.tmp 51) (some (.tmp 52)) none none⟩,
    ⟨some 54, none, .bad⟩] [] [9])
  (.seq
  (.reg [⟨some 55, none, .mv (.tmp 9)⟩,
    ⟨some 6, none, .mv (.tmp 55)⟩] [] [6])
  (.ret)))))
  (.skip)))
  (.seq
  (.reg [⟨some 56, none, .mv (.tmp 0)⟩,
    ⟨some 57, none, .mv (.tmp 8)⟩,
    ⟨some 58, none, .mv (.tmp 7)⟩,
    ⟨some 59, none, .bin .add (.tmp 57) (.tmp 58)⟩,
    ⟨some 60, none, .slc 4 (.tmp 56) none (some (.tmp 59)) none⟩,
    ⟨some 0, none, .mv (.tmp 60)⟩] [] [0, 1, 2, 7, 8])
  (.seq
  (.seq
  (.reg [⟨some 61, none, .mv (.tmp 2)⟩,
    ⟨some 62, none, .mv (.tmp 0)⟩,
    ⟨some 63, none, .mv (.tmp 1)⟩,
    ⟨some 64, none, .mv (.tmp 7)⟩,
    ⟨some 65, none, .bin .add (.tmp 63) (.tmp 64)⟩,
    ⟨some 66, none, .slc 4 (.tmp 62) (some (.tmp 65)) none none⟩,
    ⟨some 67, none, .call 97 .pure [(.tmp 61), (.tmp 66)]⟩,
    ⟨some 68, none, .un .not (.tmp 67)⟩] [] [0, 1, 2, 7, 8, 68])
  (.cond (.tmp 68)
  (.seq
  (.reg [⟨some 69, none, .mv (.tmp 0)⟩,
    ⟨some 70, none, .mv (.tmp 1)⟩,
    ⟨some 71, none, .mv (.tmp 7)⟩,
    ⟨some 72, none, .bin .add (.tmp 70) (.tmp 71)⟩,
    ⟨some 73, none, .slc 4 (.tmp 69) (some (.tmp 72)) none none⟩,
    ⟨some 74, none, .mv (.tmp 0)⟩,
    ⟨some 75, none, .mv (.tmp 1)⟩,
    ⟨some 76, none, .slc 4 (.tmp 74) (some (.tmp 75)) none none⟩,
    ⟨some 77, none, .bad⟩] [] [0, 1, 2])
  (.seq
  (.reg [⟨some 78, none, .mv (.tmp 0)⟩,
    ⟨some 79, none, .mv (.tmp 1)⟩,
    ⟨some 80, none, .slc 4 (.tmp 78) (some (.tmp 79)) none none⟩,
    ⟨some 81, none, .mv (.tmp 2)⟩,
    ⟨some 82, none, .bad⟩] [] [0])
  (.seq
  (.reg [⟨some 83, none, .mv (.tmp 0)⟩,
    ⟨some 6, none, .mv (.tmp 83)⟩] [] [6])
  (.ret))))
  (.skip)))
  (.seq
  (.reg [⟨some 84, none, .mv (.tmp 0)⟩,
    ⟨some 85, none, .mv (.tmp 8)⟩,
    ⟨some 86, none, .slc 4 (.tmp 84) (some (.tmp 85)) none none⟩,
    ⟨some 87, none, .mv (.tmp 2)⟩,
    ⟨some 88, none, .bad⟩] [] [0, 1, 7])
  (.seq
  (.reg [⟨some 89, none, .mv (.tmp 0)⟩,
    ⟨some 90, none, .mv (.tmp 1)⟩,
    ⟨some 91, none, .slc 4 (.tmp 89) (some (.tmp 90)) none none⟩,
    ⟨some 92, none, .mv (.tmp 7)⟩,
    ⟨some 93, none, .call 98 .pure [(.tmp 91), (.tmp 92)]⟩] [] [0])
  (.seq
  (.reg [⟨some 94, none, .mv (.tmp 0)⟩,
    ⟨some 6, none, .mv (.tmp 94)⟩] [] [6])
  (.ret))))))))))))⟩
theorem pf67_ok : fnOk Try.prog 67 pf67 = true := by kernel_rfl

/-- (*hinterland/block.Map).made -/
def pf68 : PFn := ⟨12, 1, [.tmp 2], .seq
  (.reg [⟨some 2, none, .mv (.val (.bool false))⟩] [] [0])
  (.seq
  (.reg [⟨some 3, none, .mv (.tmp 0)⟩,
    ⟨some 4, none, .eqp true (.tmp 3) (.val .nilptr)⟩,
    ⟨some 5, none, .mv (.tmp 4)⟩,
    ⟨some 6, (some (5, true)), .mv (.tmp 0)⟩,
    ⟨some 7, (some (5, true)), .nck (.tmp 6)⟩,
    ⟨some 8, (some (5, true)), .faddr 5 (.tmp 7)⟩,
    ⟨some 9, (some (5, true)), .ld none (.tmp 8)⟩,
    ⟨some 10, (some (5, true)), .eqn true (.tmp 9) (.val (.list .nil 1 []))⟩,
    ⟨some 11, none, .pick (.tmp 5) (.tmp 10) (.val (.bool false))⟩,
    ⟨some 2, none, .mv (.tmp 11)⟩] [] [2])
  (.ret))⟩
theorem pf68_ok : fnOk Try.prog 68 pf68 = true := by kernel_rfl

/-- hinterland/rail.Lay -/
def pf69 : PFn := ⟨66, 4, [.cell 8 (some 4), .tmp 9], .seq
  (.reg [⟨some 4, none, .boxm 25 (.tmp 0)⟩,
    ⟨some 8, none, .zer 25 (.agg [(.int .i64 0), (.int .i64 0), (.list .nil 1 []), (.list .nil 1 [])])⟩,
    ⟨some 9, none, .mv (.val (.int .i64 0))⟩] [] [1, 2, 3, 4, 8])
  (.seq
  (.seq
  (.reg [⟨some 11, none, .ld (some 4) (.tmp 4)⟩,
    ⟨some 12, none, .call 52 .pure [(.tmp 11)]⟩,
    ⟨some 10, none, .mv (.tmp 12)⟩] [] [1, 2, 3, 4, 8, 10])
  (.seq
  (.reg [⟨some 13, none, .mv (.tmp 10)⟩,
    ⟨some 14, none, .bin .neq (.tmp 13) (.val (.int .i64 0))⟩] [] [1, 2, 3, 4, 8, 10, 14])
  (.cond (.tmp 14)
  (.seq
  (.reg [⟨some 15, none, .bld [(.int .i64 0), (.int .i64 0), (.list .nil 1 []), (.list .nil 1 [])] []⟩,
    ⟨some 16, none, .mv (.tmp 10)⟩,
    ⟨none, none, .st 4 (.tmp 8) (.tmp 15)⟩,
    ⟨some 9, none, .mv (.tmp 16)⟩] [] [8, 9])
  (.ret))
  (.skip))))
  (.seq
  (.blk 0 (.seq
  (.reg [⟨some 18, none, .mv (.tmp 2)⟩,
    ⟨some 19, none, .bin .lss (.tmp 18) (.val (.int .i64 0))⟩,
    ⟨some 20, none, .mv (.tmp 19)⟩,
    ⟨some 21, (some (20, false)), .mv (.tmp 2)⟩,
    ⟨some 22, (some (20, false)), .bin .geq (.tmp 21) (.val (.int .i64 6))⟩,
    ⟨some 23, none, .pick (.tmp 20) (.val (.bool true)) (.tmp 22)⟩,
    ⟨some 17, none, .mv (.tmp 23)⟩] [] [1, 2, 3, 4, 8, 17])
  (.cond (.tmp 17)
  (.seq
  (.reg [⟨some 24, none, .bld [(.int .i64 0), (.int .i64 0), (.list .nil 1 []), (.list .nil 1 [])] []⟩,
    ⟨none, none, .st 4 (.tmp 8) (.tmp 24)⟩,
    ⟨some 9, none, .mv (.val (.int .i64 1))⟩] [] [8, 9])
  (.ret))
  (.seq
  (.reg [⟨some 26, none, .ld (some 4) (.tmp 4)⟩,
    ⟨some 27, none, .mv (.tmp 1)⟩,
    ⟨some 28, none, .call 99 .pure [(.tmp 26), (.tmp 27)]⟩,
    ⟨some 29, none, .un .not (.tmp 28)⟩,
    ⟨some 25, none, .mv (.tmp 29)⟩] [] [1, 2, 3, 4, 8, 25])
  (.cond (.tmp 25)
  (.seq
  (.reg [⟨some 30, none, .bld [(.int .i64 0), (.int .i64 0), (.list .nil 1 []), (.list .nil 1 [])] []⟩,
    ⟨none, none, .st 4 (.tmp 8) (.tmp 30)⟩,
    ⟨some 9, none, .mv (.val (.int .i64 2))⟩] [] [8, 9])
  (.ret))
  (.seq
  (.reg [⟨some 32, none, .faddr 2 (.tmp 4)⟩,
    ⟨some 33, none, .ld none (.tmp 32)⟩,
    ⟨some 34, none, .mv (.tmp 1)⟩,
    ⟨some 35, none, .iaS 1 (.tmp 33) (.tmp 34)⟩,
    ⟨some 36, none, .ld none (.tmp 35)⟩,
    ⟨some 37, none, .mv (.tmp 2)⟩,
    ⟨some 38, none, .bin .shr (.tmp 36) (.tmp 37)⟩,
    ⟨some 39, none, .bin .and (.tmp 38) (.val (.int .i64 1))⟩,
    ⟨some 40, none, .bin .eql (.tmp 39) (.val (.int .i64 1))⟩,
    ⟨some 31, none, .mv (.tmp 40)⟩] [] [1, 2, 3, 4, 8, 31])
  (.cond (.tmp 31)
  (.seq
  (.reg [⟨some 41, none, .bld [(.int .i64 0), (.int .i64 0), (.list .nil 1 []), (.list .nil 1 [])] []⟩,
    ⟨none, none, .st 4 (.tmp 8) (.tmp 41)⟩,
    ⟨some 9, none, .mv (.val (.int .i64 3))⟩] [] [8, 9])
  (.ret))
  (.skip))))))))
  (.seq
  (.reg [⟨some 42, none, .ld (some 4) (.tmp 4)⟩,
    ⟨some 43, none, .call 100 .pure [(.tmp 42)]⟩,
    ⟨none, none, .st 4 (.tmp 4) (.tmp 43)⟩] [] [1, 2, 3, 4, 8])
  (.seq
  (.reg [⟨some 44, none, .faddr 2 (.tmp 4)⟩,
    ⟨some 45, none, .ld none (.tmp 44)⟩,
    ⟨some 46, none, .mv (.tmp 1)⟩,
    ⟨some 47, none, .iaS 1 (.tmp 45) (.tmp 46)⟩,
    ⟨some 48, none, .ld none (.tmp 47)⟩,
    ⟨some 49, none, .mv (.tmp 2)⟩,
    ⟨some 50, none, .bin .shl (.val (.int .i64 1)) (.tmp 49)⟩,
    ⟨some 51, none, .bin .or (.tmp 48) (.tmp 50)⟩,
    ⟨some 52, none, .iaS 1 (.tmp 45) (.tmp 46)⟩,
    ⟨none, none, .st 1 (.tmp 52) (.tmp 51)⟩] [] [1, 3, 4, 8])
  (.seq
  (.reg [⟨some 53, none, .faddr 3 (.tmp 4)⟩,
    ⟨some 54, none, .ld none (.tmp 53)⟩,
    ⟨some 55, none, .mv (.tmp 1)⟩,
    ⟨some 56, none, .faddr 3 (.tmp 4)⟩,
    ⟨some 57, none, .ld none (.tmp 56)⟩,
    ⟨some 58, none, .mv (.tmp 1)⟩,
    ⟨some 59, none, .iaS 1 (.tmp 57) (.tmp 58)⟩,
    ⟨some 60, none, .ld none (.tmp 59)⟩,
    ⟨some 61, none, .mv (.tmp 60)⟩,
    ⟨some 62, (some (61, false)), .mv (.tmp 3)⟩,
    ⟨some 63, none, .pick (.tmp 61) (.val (.bool true)) (.tmp 62)⟩,
    ⟨some 64, none, .iaS 1 (.tmp 54) (.tmp 55)⟩,
    ⟨none, none, .st 1 (.tmp 64) (.tmp 63)⟩] [] [4, 8])
  (.seq
  (.reg [⟨some 65, none, .ld (some 4) (.tmp 4)⟩,
    ⟨none, none, .st 4 (.tmp 8) (.tmp 65)⟩,
    ⟨some 9, none, .mv (.val (.int .i64 0))⟩] [] [8, 9])
  (.ret)))))))⟩
theorem pf69_ok : fnOk Try.prog 69 pf69 = true := by kernel_rfl

/-- (*hinterland/block.Map).set -/
def pf70 : PFn := ⟨26, 4, [.tmp 8], .seq
  (.reg [⟨some 5, none, .boxp 25 (.tmp 1)⟩,
    ⟨some 8, none, .mv (.val (.int .i64 0))⟩] [] [0, 2, 3, 5])
  (.seq
  (.seq
  (.reg [⟨some 9, none, .mv (.tmp 3)⟩,
    ⟨some 10, none, .bin .eql (.tmp 9) (.val (.int .i64 0))⟩] [] [0, 2, 3, 5, 10])
  (.cond (.tmp 10)
  (.reg [⟨some 11, none, .mv (.tmp 0)⟩,
    ⟨some 12, none, .mv (.tmp 0)⟩,
    ⟨some 13, none, .mv (.tmp 0)⟩,
    ⟨some 14, none, .ld (some 4) (.tmp 5)⟩,
    ⟨some 15, none, .mv (.tmp 2)⟩,
    ⟨some 16, none, .ld (some 4) (.tmp 5)⟩,
    ⟨some 17, none, .mv (.tmp 2)⟩,
    ⟨some 18, none, .call 58 .pure [(.tmp 16), (.tmp 17)]⟩,
    ⟨some 19, none, .nck (.tmp 11)⟩,
    ⟨some 20, none, .faddr 0 (.tmp 19)⟩,
    ⟨none, none, .st 4 (.tmp 20) (.tmp 14)⟩,
    ⟨some 21, none, .nck (.tmp 12)⟩,
    ⟨some 22, none, .faddr 4 (.tmp 21)⟩,
    ⟨none, none, .st 1 (.tmp 22) (.tmp 15)⟩,
    ⟨some 23, none, .nck (.tmp 13)⟩,
    ⟨some 24, none, .faddr 5 (.tmp 23)⟩,
    ⟨none, none, .st 1 (.tmp 24) (.tmp 18)⟩] [] [3])
  (.skip)))
  (.seq
  (.reg [⟨some 25, none, .mv (.tmp 3)⟩,
    ⟨some 8, none, .mv (.tmp 25)⟩] [] [8])
  (.ret)))⟩
theorem pf70_ok : fnOk Try.prog 70 pf70 = true := by kernel_rfl

/-- hinterland/rail.Lift -/
def pf71 : PFn := ⟨69, 3, [.cell 6 (some 4), .tmp 7], .seq
  (.reg [⟨some 3, none, .boxm 25 (.tmp 0)⟩,
    ⟨some 6, none, .zer 25 (.agg [(.int .i64 0), (.int .i64 0), (.list .nil 1 []), (.list .nil 1 [])])⟩,
    ⟨some 7, none, .mv (.val (.int .i64 0))⟩] [] [1, 2, 3, 6])
  (.seq
  (.seq
  (.reg [⟨some 9, none, .ld (some 4) (.tmp 3)⟩,
    ⟨some 10, none, .call 52 .pure [(.tmp 9)]⟩,
    ⟨some 8, none, .mv (.tmp 10)⟩] [] [1, 2, 3, 6, 8])
  (.seq
  (.reg [⟨some 11, none, .mv (.tmp 8)⟩,
    ⟨some 12, none, .bin .neq (.tmp 11) (.val (.int .i64 0))⟩] [] [1, 2, 3, 6, 8, 12])
  (.cond (.tmp 12)
  (.seq
  (.reg [⟨some 13, none, .bld [(.int .i64 0), (.int .i64 0), (.list .nil 1 []), (.list .nil 1 [])] []⟩,
    ⟨some 14, none, .mv (.tmp 8)⟩,
    ⟨none, none, .st 4 (.tmp 6) (.tmp 13)⟩,
    ⟨some 7, none, .mv (.tmp 14)⟩] [] [6, 7])
  (.ret))
  (.skip))))
  (.seq
  (.blk 0 (.seq
  (.reg [⟨some 16, none, .mv (.tmp 2)⟩,
    ⟨some 17, none, .bin .lss (.tmp 16) (.val (.int .i64 0))⟩,
    ⟨some 18, none, .mv (.tmp 17)⟩,
    ⟨some 19, (some (18, false)), .mv (.tmp 2)⟩,
    ⟨some 20, (some (18, false)), .bin .geq (.tmp 19) (.val (.int .i64 6))⟩,
    ⟨some 21, none, .pick (.tmp 18) (.val (.bool true)) (.tmp 20)⟩,
    ⟨some 15, none, .mv (.tmp 21)⟩] [] [1, 2, 3, 6, 15])
  (.cond (.tmp 15)
  (.seq
  (.reg [⟨some 22, none, .bld [(.int .i64 0), (.int .i64 0), (.list .nil 1 []), (.list .nil 1 [])] []⟩,
    ⟨none, none, .st 4 (.tmp 6) (.tmp 22)⟩,
    ⟨some 7, none, .mv (.val (.int .i64 1))⟩] [] [6, 7])
  (.ret))
  (.seq
  (.reg [⟨some 24, none, .ld (some 4) (.tmp 3)⟩,
    ⟨some 25, none, .mv (.tmp 1)⟩,
    ⟨some 26, none, .call 99 .pure [(.tmp 24), (.tmp 25)]⟩,
    ⟨some 27, none, .un .not (.tmp 26)⟩,
    ⟨some 28, none, .mv (.tmp 27)⟩,
    ⟨some 29, (some (28, false)), .faddr 2 (.tmp 3)⟩,
    ⟨some 30, (some (28, false)), .ld none (.tmp 29)⟩,
    ⟨some 31, (some (28, false)), .mv (.tmp 1)⟩,
    ⟨some 32, (some (28, false)), .iaS 1 (.tmp 30) (.tmp 31)⟩,
    ⟨some 33, (some (28, false)), .ld none (.tmp 32)⟩,
    ⟨some 34, (some (28, false)), .mv (.tmp 2)⟩,
    ⟨some 35, (some (28, false)), .bin .shr (.tmp 33) (.tmp 34)⟩,
    ⟨some 36, (some (28, false)), .bin .and (.tmp 35) (.val (.int .i64 1))⟩,
    ⟨some 37, (some (28, false)), .bin .eql (.tmp 36) (.val (.int .i64 0))⟩,
    ⟨some 38, none, .pick (.tmp 28) (.val (.bool true)) (.tmp 37)⟩,
    ⟨some 23, none, .mv (.tmp 38)⟩] [] [1, 2, 3, 6, 23])
  (.cond (.tmp 23)
  (.seq
  (.reg [⟨some 39, none, .bld [(.int .i64 0), (.int .i64 0), (.list .nil 1 []), (.list .nil 1 [])] []⟩,
    ⟨none, none, .st 4 (.tmp 6) (.tmp 39)⟩,
    ⟨some 7, none, .mv (.val (.int .i64 2))⟩] [] [6, 7])
  (.ret))
  (.skip))))))
  (.seq
  (.reg [⟨some 40, none, .ld (some 4) (.tmp 3)⟩,
    ⟨some 41, none, .call 100 .pure [(.tmp 40)]⟩,
    ⟨none, none, .st 4 (.tmp 3) (.tmp 41)⟩] [] [1, 2, 3, 6])
  (.seq
  (.reg [⟨some 42, none, .faddr 2 (.tmp 3)⟩,
    ⟨some 43, none, .ld none (.tmp 42)⟩,
    ⟨some 44, none, .mv (.tmp 1)⟩,
    ⟨some 45, none, .iaS 1 (.tmp 43) (.tmp 44)⟩,
    ⟨some 46, none, .ld none (.tmp 45)⟩,
    ⟨some 47, none, .mv (.tmp 2)⟩,
    ⟨some 48, none, .bin .shl (.val (.int .i64 1)) (.tmp 47)⟩,
    ⟨some 49, none, .bin .andNot (.tmp 46) (.tmp 48)⟩,
    ⟨some 50, none, .iaS 1 (.tmp 43) (.tmp 44)⟩,
    ⟨none, none, .st 1 (.tmp 50) (.tmp 49)⟩] [] [1, 3, 6])
  (.seq
  (.reg [⟨some 51, none, .faddr 3 (.tmp 3)⟩,
    ⟨some 52, none, .ld none (.tmp 51)⟩,
    ⟨some 53, none, .mv (.tmp 1)⟩,
    ⟨some 54, none, .faddr 3 (.tmp 3)⟩,
    ⟨some 55, none, .ld none (.tmp 54)⟩,
    ⟨some 56, none, .mv (.tmp 1)⟩,
    ⟨some 57, none, .iaS 1 (.tmp 55) (.tmp 56)⟩,
    ⟨some 58, none, .ld none (.tmp 57)⟩,
    ⟨some 59, none, .mv (.tmp 58)⟩,
    ⟨some 60, (some (59, true)), .faddr 2 (.tmp 3)⟩,
    ⟨some 61, (some (59, true)), .ld none (.tmp 60)⟩,
    ⟨some 62, (some (59, true)), .mv (.tmp 1)⟩,
    ⟨some 63, (some (59, true)), .iaS 1 (.tmp 61) (.tmp 62)⟩,
    ⟨some 64, (some (59, true)), .ld none (.tmp 63)⟩,
    ⟨some 65, (some (59, true)), .bin .neq (.tmp 64) (.val (.int .i64 0))⟩,
    ⟨some 66, none, .pick (.tmp 59) (.tmp 65) (.val (.bool false))⟩,
    ⟨some 67, none, .iaS 1 (.tmp 52) (.tmp 53)⟩,
    ⟨none, none, .st 1 (.tmp 67) (.tmp 66)⟩] [] [3, 6])
  (.seq
  (.reg [⟨some 68, none, .ld (some 4) (.tmp 3)⟩,
    ⟨none, none, .st 4 (.tmp 6) (.tmp 68)⟩,
    ⟨some 7, none, .mv (.val (.int .i64 0))⟩] [] [6, 7])
  (.ret)))))))⟩
theorem pf71_ok : fnOk Try.prog 71 pf71 = true := by kernel_rfl

/-- slices.DeleteFunc[[]hinterland/api.Signal,hinterland/api.Signal] -/
def pf72 : PFn := ⟨42, 2, [.tmp 4], .seq
  (.reg [⟨some 4, none, .mv (.val (.list .nil 1 []))⟩] [] [0, 1])
  (.seq
  (.reg [⟨some 8, none, .mv (.tmp 0)⟩,
    ⟨some 9, none, .mv (.tmp 1)⟩,
    ⟨some 10, none, .call 101 .pure [(.tmp 8), (.tmp 9)]⟩,
    ⟨some 5, none, .mv (.tmp 10)⟩] [] [0, 1, 5])
  (.seq
  (.seq
  (.reg [⟨some 11, none, .mv (.tmp 5)⟩,
    ⟨some 12, none, .bin .eql (.tmp 11) (.val (.int .i64 (-1)))⟩] [] [0, 1, 5, 12])
  (.cond (.tmp 12)
  (.seq
  (.reg [⟨some 13, none, .mv (.tmp 0)⟩,
    ⟨some 4, none, .mv (.tmp 13)⟩] [] [4])
  (.ret))
  (.skip)))
  (.seq
  (.seq
  (.reg [⟨some 14, none, .mv (.tmp 5)⟩,
    ⟨some 15, none, .bin .add (.tmp 14) (.val (.int .i64 1))⟩,
    ⟨some 6, none, .mv (.tmp 15)⟩] [] [0, 1, 5, 6])
  (.blk 0 (.loop (.trim (.seq
  (.seq
  (.reg [⟨some 16, none, .mv (.tmp 6)⟩,
    ⟨some 17, none, .mv (.tmp 0)⟩,
    ⟨some 18, none, .len (.tmp 17)⟩,
    ⟨some 19, none, .bin .lss (.tmp 16) (.tmp 18)⟩] [] [0, 1, 5, 6, 19])
  (.cond (.tmp 19)
  (.skip)
  (.ext 0)))
  (.seq
  (.blk 1 (.seq
  (.reg [⟨some 22, none, .mv (.tmp 0)⟩,
    ⟨some 23, none, .mv (.tmp 6)⟩,
    ⟨some 24, none, .iaS 4 (.tmp 22) (.tmp 23)⟩,
    ⟨some 25, none, .ld (some 4) (.tmp 24)⟩,
    ⟨some 7, none, .zer 45 (.agg [(.int .i64 0), (.int .i64 0), (.int .i64 0), (.int .i64 0)])⟩,
    ⟨none, none, .st 4 (.tmp 7) (.tmp 25)⟩] [] [0, 1, 5, 6, 7])
  (.seq
  (.reg [⟨some 26, none, .mv (.tmp 1)⟩,
    ⟨some 27, none, .ld (some 4) (.tmp 7)⟩,
    ⟨some 28, none, .callv (.tmp 26) .pure [(.tmp 27)]⟩,
    ⟨some 29, none, .un .not (.tmp 28)⟩] [] [0, 1, 5, 6, 7, 29])
  (.cond (.tmp 29)
  (.seq
  (.reg [⟨some 30, none, .mv (.tmp 0)⟩,
    ⟨some 31, none, .mv (.tmp 5)⟩,
    ⟨some 32, none, .ld (some 4) (.tmp 7)⟩,
    ⟨some 33, none, .iaS 4 (.tmp 30) (.tmp 31)⟩,
    ⟨none, none, .st 4 (.tmp 33) (.tmp 32)⟩] [] [0, 1, 5, 6])
  (.reg [⟨some 34, none, .mv (.tmp 5)⟩,
    ⟨some 35, none, .bin .add (.tmp 34) (.val (.int .i64 1))⟩,
    ⟨some 5, none, .mv (.tmp 35)⟩] [] [0, 1, 5, 6]))
  (.skip)))))
  (.reg [⟨some 20, none, .mv (.tmp 6)⟩,
    ⟨some 21, none, .bin .add (.tmp 20) (.val (.int .i64 1))⟩,
    ⟨some 6, none, .mv (.tmp 21)⟩] [] [0, 1, 5, 6])))))))
  (.seq
  (.reg [⟨some 36, none, .mv (.tmp 0)⟩,
    ⟨some 37, none, .mv (.tmp 5)⟩,
    ⟨some 38, none, .slc 4 (.tmp 36) (some (.tmp 37)) none none⟩,
    ⟨none, none, .clr 4 [(.int .i64 0), (.int .i64 0), (.int .i64 0), (.int .i64 0)] (.tmp 38)⟩] [] [0, 5])
  (.seq
  (.reg [⟨some 39, none, .mv (.tmp 0)⟩,
    ⟨some 40, none, .mv (.tmp 5)⟩,
    ⟨some 41, none, .slc 4 (.tmp 39) none (some (.tmp 40)) none⟩,
    ⟨some 4, none, .mv (.tmp 41)⟩] [] [4])
  (.ret))))))⟩
theorem pf72_ok : fnOk Try.prog 72 pf72 = true := by kernel_rfl

/-- (*hinterland/block.Map).Lift_1 -/
def pf73 : PFn := ⟨15, 3, [.tmp 4], .seq
  (.reg [⟨some 3, none, .boxp 45 (.tmp 0)⟩,
    ⟨some 4, none, .mv (.val (.bool false))⟩] [] [1, 2, 3])
  (.seq
  (.reg [⟨some 5, none, .faddr 0 (.tmp 3)⟩,
    ⟨some 6, none, .ld none (.tmp 5)⟩,
    ⟨some 7, none, .ld none (.tmp 1)⟩,
    ⟨some 8, none, .bin .eql (.tmp 6) (.tmp 7)⟩,
    ⟨some 9, none, .mv (.tmp 8)⟩,
    ⟨some 10, (some (9, true)), .faddr 1 (.tmp 3)⟩,
    ⟨some 11, (some (9, true)), .ld none (.tmp 10)⟩,
    ⟨some 12, (some (9, true)), .ld none (.tmp 2)⟩,
    ⟨some 13, (some (9, true)), .bin .eql (.tmp 11) (.tmp 12)⟩,
    ⟨some 14, none, .pick (.tmp 9) (.tmp 13) (.val (.bool false))⟩,
    ⟨some 4, none, .mv (.tmp 14)⟩] [] [4])
  (.ret))⟩
theorem pf73_ok : fnOk Try.prog 73 pf73 = true := by kernel_rfl

/-- slices.Clone[[]int,int] -/
def pf74 : PFn := ⟨8, 1, [.tmp 2], .seq
  (.reg [⟨some 2, none, .mv (.val (.list .nil 1 []))⟩] [] [0])
  (.seq
  (.seq
  (.reg [⟨some 3, none, .mv (.tmp 0)⟩,
    ⟨some 4, none, .eqn false (.tmp 3) (.val (.list .nil 1 []))⟩] [] [0, 4])
  (.cond (.tmp 4)
  (.seq
  (.reg [⟨some 2, none, .mv (.val (.list .nil 1 []))⟩] [] [2])
  (.ret))
  (.skip)))
  (.seq
  (.reg [⟨some 5, none, .bsl 0 1 [(.int .i64 0)] []⟩,
    ⟨some 6, none, .mv (.tmp 0)⟩,
    ⟨some 7, none, .app 3 1 8 (.tmp 5) (.tmp 6)⟩,
    ⟨some 2, none, .mv (.tmp 7)⟩] [] [2])
  (.ret)))⟩
theorem pf74_ok : fnOk Try.prog 74 pf74 = true := by kernel_rfl

/-- slices.Clone[[]bool,bool] -/
def pf75 : PFn := ⟨8, 1, [.tmp 2], .seq
  (.reg [⟨some 2, none, .mv (.val (.list .nil 1 []))⟩] [] [0])
  (.seq
  (.seq
  (.reg [⟨some 3, none, .mv (.tmp 0)⟩,
    ⟨some 4, none, .eqn false (.tmp 3) (.val (.list .nil 1 []))⟩] [] [0, 4])
  (.cond (.tmp 4)
  (.seq
  (.reg [⟨some 2, none, .mv (.val (.list .nil 1 []))⟩] [] [2])
  (.ret))
  (.skip)))
  (.seq
  (.reg [⟨some 5, none, .bsl 0 1 [(.bool false)] []⟩,
    ⟨some 6, none, .mv (.tmp 0)⟩,
    ⟨some 7, none, .app 4 1 1 (.tmp 5) (.tmp 6)⟩,
    ⟨some 2, none, .mv (.tmp 7)⟩] [] [2])
  (.ret)))⟩
theorem pf75_ok : fnOk Try.prog 75 pf75 = true := by kernel_rfl

/-- hinterland/hinterlandref03.first -/
def pf76 : PFn := ⟨14, 1, [.tmp 2], .seq
  (.reg [⟨some 2, none, .mv (.val (.int .i64 0))⟩] [] [0])
  (.seq
  (.seq
  (.reg [⟨some 3, none, .mv (.tmp 0)⟩] [] [3])
  (.blk 0 (.seq
  (.seq
  (.reg [⟨some 5, none, .bin .eql (.tmp 3) (.val (.int .i64 0))⟩,
    ⟨some 4, none, .mv (.tmp 5)⟩] [] [3, 4])
  (.cond (.tmp 4)
  (.skip)
  (.reg [⟨some 6, none, .bin .eql (.tmp 3) (.val (.int .i64 2))⟩,
    ⟨some 4, none, .mv (.tmp 6)⟩] [] [3, 4])))
  (.cond (.tmp 4)
  (.seq
  (.reg [⟨some 2, none, .mv (.val (.int .i64 0))⟩] [] [2])
  (.ret))
  (.seq
  (.seq
  (.reg [⟨some 8, none, .bin .eql (.tmp 3) (.val (.int .i64 1))⟩,
    ⟨some 7, none, .mv (.tmp 8)⟩] [] [3, 7])
  (.cond (.tmp 7)
  (.skip)
  (.reg [⟨some 9, none, .bin .eql (.tmp 3) (.val (.int .i64 3))⟩,
    ⟨some 7, none, .mv (.tmp 9)⟩] [] [3, 7])))
  (.cond (.tmp 7)
  (.seq
  (.reg [⟨some 2, none, .mv (.val (.int .i64 1))⟩] [] [2])
  (.ret))
  (.seq
  (.reg [⟨some 11, none, .bin .eql (.tmp 3) (.val (.int .i64 4))⟩,
    ⟨some 10, none, .mv (.tmp 11)⟩] [] [3, 10])
  (.cond (.tmp 10)
  (.seq
  (.reg [⟨some 2, none, .mv (.val (.int .i64 2))⟩] [] [2])
  (.ret))
  (.seq
  (.reg [⟨some 13, none, .bin .eql (.tmp 3) (.val (.int .i64 5))⟩,
    ⟨some 12, none, .mv (.tmp 13)⟩] [] [12])
  (.cond (.tmp 12)
  (.seq
  (.reg [⟨some 2, none, .mv (.val (.int .i64 3))⟩] [] [2])
  (.ret))
  (.skip)))))))))))
  (.seq
  (.reg [⟨some 2, none, .mv (.val (.int .i64 (-1)))⟩] [] [2])
  (.ret)))⟩
theorem pf76_ok : fnOk Try.prog 76 pf76 = true := by kernel_rfl

/-- hinterland/hinterlandref03.Copy -/
def pf77 : PFn := ⟨16, 1, [.cell 2 (some 4)], .seq
  (.reg [⟨some 1, none, .boxp 25 (.tmp 0)⟩,
    ⟨some 2, none, .zer 25 (.agg [(.int .i64 0), (.int .i64 0), (.list .nil 1 []), (.list .nil 1 [])])⟩] [] [1, 2])
  (.seq
  (.reg [⟨some 3, none, .faddr 0 (.tmp 1)⟩,
    ⟨some 4, none, .ld none (.tmp 3)⟩,
    ⟨some 5, none, .faddr 1 (.tmp 1)⟩,
    ⟨some 6, none, .ld none (.tmp 5)⟩,
    ⟨some 7, none, .bsl 0 1 [(.int .i64 0)] []⟩,
    ⟨some 8, none, .faddr 2 (.tmp 1)⟩,
    ⟨some 9, none, .ld none (.tmp 8)⟩,
    ⟨some 10, none, .app 3 1 8 (.tmp 7) (.tmp 9)⟩,
    ⟨some 11, none, .bsl 0 1 [(.bool false)] []⟩,
    ⟨some 12, none, .faddr 3 (.tmp 1)⟩,
    ⟨some 13, none, .ld none (.tmp 12)⟩,
    ⟨some 14, none, .app 4 1 1 (.tmp 11) (.tmp 13)⟩,
    ⟨some 15, none, .bld [(.int .i64 0), (.int .i64 0), (.list .nil 1 []), (.list .nil 1 [])] [(0, 1, (.tmp 4)), (1, 1, (.tmp 6)), (2, 1, (.tmp 10)), (3, 1, (.tmp 14))]⟩,
    ⟨none, none, .st 4 (.tmp 2) (.tmp 15)⟩] [(1, 7), (1, 8), (1, 11), (1, 12), (3, 7), (3, 8), (3, 11), (3, 12), (10, 7), (10, 8)] [2])
  (.ret))⟩
theorem pf77_ok : fnOk Try.prog 77 pf77 = true := by kernel_rfl

/-- hinterland/hinterlandref07.beyond -/
def pf78 : PFn := ⟨104, 5, [.tmp 10], .seq
  (.reg [⟨some 5, none, .boxp 25 (.tmp 0)⟩,
    ⟨some 10, none, .mv (.val (.list .nil 1 []))⟩] [] [1, 2, 4, 5])
  (.seq
  (.reg [⟨some 18, none, .faddr 0 (.tmp 5)⟩,
    ⟨some 19, none, .ld none (.tmp 18)⟩,
    ⟨some 20, none, .faddr 1 (.tmp 5)⟩,
    ⟨some 21, none, .ld none (.tmp 20)⟩,
    ⟨some 22, none, .mv (.tmp 2)⟩,
    ⟨some 23, none, .mv (.tmp 4)⟩,
    ⟨some 24, none, .call 87 .pure [(.tmp 19), (.tmp 21), (.tmp 22), (.tmp 23)]⟩,
    ⟨some 11, none, .mv (.tmp 24)⟩] [] [1, 4, 5, 11])
  (.seq
  (.seq
  (.reg [⟨some 25, none, .mv (.tmp 11)⟩,
    ⟨some 26, none, .bin .lss (.tmp 25) (.val (.int .i64 0))⟩] [] [1, 4, 5, 11, 26])
  (.cond (.tmp 26)
  (.seq
  (.reg [⟨some 10, none, .mv (.val (.list .nil 1 []))⟩] [] [10])
  (.ret))
  (.skip)))
  (.seq
  (.reg [⟨some 12, none, .nacc 3 1⟩] [] [1, 4, 5, 11, 12])
  (.seq
  (.seq
  (.reg [⟨some 13, none, .mv (.val (.int .i64 0))⟩] [] [1, 4, 5, 11, 12, 13])
  (.blk 0 (.loop (.seq
  (.seq
  (.reg [⟨some 27, none, .mv (.tmp 13)⟩,
    ⟨some 28, none, .bin .lss (.tmp 27) (.val (.int .i64 6))⟩] [] [1, 4, 5, 11, 12, 13, 28])
  (.cond (.tmp 28)
  (.skip)
  (.ext 0)))
  (.seq
  (.blk 1 (.seq
  (.seq
  (.reg [⟨some 31, none, .ld (some 4) (.tmp 5)⟩,
    ⟨some 32, none, .mv (.tmp 11)⟩,
    ⟨some 33, none, .mv (.tmp 13)⟩,
    ⟨some 34, none, .call 25 .pure [(.tmp 31), (.tmp 32), (.tmp 33)]⟩,
    ⟨some 35, none, .un .not (.tmp 34)⟩,
    ⟨some 36, none, .mv (.tmp 35)⟩,
    ⟨some 37, (some (36, false)), .mv (.tmp 13)⟩,
    ⟨some 38, (some (36, false)), .mv (.tmp 4)⟩,
    ⟨some 39, (some (36, false)), .bin .add (.tmp 38) (.val (.int .i64 2))⟩,
    ⟨some 40, (some (36, false)), .bin .rem (.tmp 39) (.val (.int .i64 4))⟩,
    ⟨some 41, (some (36, false)), .call 51 .pure [(.tmp 37), (.tmp 40)]⟩,
    ⟨some 42, (some (36, false)), .un .not (.tmp 41)⟩,
    ⟨some 43, none, .pick (.tmp 36) (.val (.bool true)) (.tmp 42)⟩] [] [1, 4, 5, 11, 12, 13, 43])
  (.cond (.tmp 43)
  (.ext 1)
  (.skip)))
  (.seq
  (.reg [⟨some 44, none, .mv (.tmp 1)⟩,
    ⟨some 45, none, .mv (.tmp 11)⟩,
    ⟨some 46, none, .bin .mul (.tmp 45) (.val (.int .i64 6))⟩,
    ⟨some 47, none, .mv (.tmp 13)⟩,
    ⟨some 48, none, .bin .add (.tmp 46) (.tmp 47)⟩,
    ⟨some 49, none, .iaS 1 (.tmp 44) (.tmp 48)⟩,
    ⟨some 50, none, .ld none (.tmp 49)⟩,
    ⟨some 14, none, .mv (.tmp 50)⟩,
    ⟨some 15, none, .mv (.val (.bool false))⟩] [] [1, 4, 5, 11, 12, 13, 14, 15])
  (.seq
  (.seq
  (.reg [⟨some 16, none, .mv (.val (.int .i64 0))⟩] [] [1, 4, 5, 11, 12, 13, 14, 15, 16])
  (.blk 2 (.loop (.seq
  (.seq
  (.reg [⟨some 51, none, .mv (.tmp 16)⟩,
    ⟨some 52, none, .mv (.tmp 12)⟩,
    ⟨some 53, none, .len (.tmp 52)⟩,
    ⟨some 54, none, .bin .lss (.tmp 51) (.tmp 53)⟩] [] [1, 4, 5, 11, 12, 13, 14, 15, 16, 54])
  (.cond (.tmp 54)
  (.skip)
  (.ext 2)))
  (.seq
  (.blk 3 (.reg [⟨some 57, none, .mv (.tmp 15)⟩,
    ⟨some 58, none, .mv (.tmp 57)⟩,
    ⟨some 59, (some (58, false)), .mv (.tmp 12)⟩,
    ⟨some 60, (some (58, false)), .mv (.tmp 16)⟩,
    ⟨some 61, (some (58, false)), .iaS 1 (.tmp 59) (.tmp 60)⟩,
    ⟨some 62, (some (58, false)), .ld none (.tmp 61)⟩,
    ⟨some 63, (some (58, false)), .mv (.tmp 14)⟩,
    ⟨some 64, (some (58, false)), .bin .eql (.tmp 62) (.tmp 63)⟩,
    ⟨some 65, none, .pick (.tmp 58) (.val (.bool true)) (.tmp 64)⟩,
    ⟨some 15, none, .mv (.tmp 65)⟩] [] [1, 4, 5, 11, 12, 13, 14, 15, 16]))
  (.reg [⟨some 55, none, .mv (.tmp 16)⟩,
    ⟨some 56, none, .bin .add (.tmp 55) (.val (.int .i64 1))⟩,
    ⟨some 16, none, .mv (.tmp 56)⟩] [] [1, 4, 5, 11, 12, 13, 14, 15, 16]))))))
  (.seq
  (.seq
  (.reg [⟨some 66, none, .mv (.tmp 15)⟩] [] [1, 4, 5, 11, 12, 13, 14, 66])
  (.cond (.tmp 66)
  (.ext 1)
  (.skip)))
  (.seq
  (.reg [⟨some 67, none, .mv (.tmp 12)⟩,
    ⟨some 68, none, .mv (.tmp 14)⟩,
    ⟨some 69, none, .bsl 1 1 [(.int .i64 0)] [(0, 1, (.tmp 68))]⟩,
    ⟨some 70, none, .app 3 1 8 (.tmp 67) (.tmp 69)⟩,
    ⟨some 12, none, .mv (.tmp 70)⟩] [] [1, 4, 5, 11, 12, 13, 14])
  (.seq
  (.reg [⟨some 71, none, .mv (.tmp 12)⟩,
    ⟨some 72, none, .len (.tmp 71)⟩,
    ⟨some 73, none, .bin .sub (.tmp 72) (.val (.int .i64 1))⟩,
    ⟨some 17, none, .mv (.tmp 73)⟩] [] [1, 4, 5, 11, 12, 13, 14, 17])
  (.blk 4 (.loop (.seq
  (.seq
  (.reg [⟨some 74, none, .mv (.tmp 17)⟩,
    ⟨some 75, none, .bin .gtr (.tmp 74) (.val (.int .i64 0))⟩,
    ⟨some 76, none, .mv (.tmp 75)⟩,
    ⟨some 77, (some (76, true)), .mv (.tmp 12)⟩,
    ⟨some 78, (some (76, true)), .mv (.tmp 17)⟩,
    ⟨some 79, (some (76, true)), .iaS 1 (.tmp 77) (.tmp 78)⟩,
    ⟨some 80, (some (76, true)), .ld none (.tmp 79)⟩,
    ⟨some 81, (some (76, true)), .mv (.tmp 12)⟩,
    ⟨some 82, (some (76, true)), .mv (.tmp 17)⟩,
    ⟨some 83, (some (76, true)), .bin .sub (.tmp 82) (.val (.int .i64 1))⟩,
    ⟨some 84, (some (76, true)), .iaS 1 (.tmp 81) (.tmp 83)⟩,
    ⟨some 85, (some (76, true)), .ld none (.tmp 84)⟩,
    ⟨some 86, (some (76, true)), .bin .lss (.tmp 80) (.tmp 85)⟩,
    ⟨some 87, none, .pick (.tmp 76) (.tmp 86) (.val (.bool false))⟩] [] [1, 4, 5, 11, 12, 13, 14, 17, 87])
  (.cond (.tmp 87)
  (.skip)
  (.ext 4)))
  (.seq
  (.blk 5 (.seq
  (.reg [⟨some 90, none, .mv (.tmp 12)⟩,
    ⟨some 91, none, .mv (.tmp 17)⟩,
    ⟨some 92, none, .mv (.tmp 12)⟩,
    ⟨some 93, none, .mv (.tmp 17)⟩,
    ⟨some 94, none, .bin .sub (.tmp 93) (.val (.int .i64 1))⟩,
    ⟨some 95, none, .iaS 1 (.tmp 92) (.tmp 94)⟩,
    ⟨some 96, none, .ld none (.tmp 95)⟩,
    ⟨some 97, none, .iaS 1 (.tmp 90) (.tmp 91)⟩,
    ⟨none, none, .st 1 (.tmp 97) (.tmp 96)⟩] [] [1, 4, 5, 11, 12, 13, 14, 17])
  (.reg [⟨some 98, none, .mv (.tmp 12)⟩,
    ⟨some 99, none, .mv (.tmp 17)⟩,
    ⟨some 100, none, .bin .sub (.tmp 99) (.val (.int .i64 1))⟩,
    ⟨some 101, none, .mv (.tmp 14)⟩,
    ⟨some 102, none, .iaS 1 (.tmp 98) (.tmp 100)⟩,
    ⟨none, none, .st 1 (.tmp 102) (.tmp 101)⟩] [] [1, 4, 5, 11, 12, 13, 14, 17])))
  (.reg [⟨some 88, none, .mv (.tmp 17)⟩,
    ⟨some 89, none, .bin .sub (.tmp 88) (.val (.int .i64 1))⟩,
    ⟨some 17, none, .mv (.tmp 89)⟩] [] [1, 4, 5, 11, 12, 13, 14, 17]))))))))))))
  (.reg [⟨some 29, none, .mv (.tmp 13)⟩,
    ⟨some 30, none, .bin .add (.tmp 29) (.val (.int .i64 1))⟩,
    ⟨some 13, none, .mv (.tmp 30)⟩] [] [1, 4, 5, 11, 12, 13]))))))
  (.seq
  (.reg [⟨some 103, none, .mv (.tmp 12)⟩,
    ⟨some 10, none, .mv (.tmp 103)⟩] [] [10])
  (.ret))))))⟩
theorem pf78_ok : fnOk Try.prog 78 pf78 = true := by kernel_rfl

/-- hinterland/block.beyond -/
def pf79 : PFn := ⟨30, 2, [.tmp 4], .seq
  (.reg [⟨some 4, none, .mv (.val (.list .nil 1 []))⟩] [] [0, 1])
  (.seq
  (.reg [⟨some 5, none, .nacc 3 1⟩] [] [0, 1, 5])
  (.seq
  (.seq
  (.reg [⟨some 8, none, .mv (.tmp 1)⟩,
    ⟨some 9, none, .len (.tmp 8)⟩,
    ⟨some 10, none, .mv (.val (.int .i64 0))⟩] [] [0, 5, 8, 9, 10])
  (.blk 0 (.loop (.trim (.seq
  (.reg [⟨some 11, none, .bin .lss (.tmp 10) (.tmp 9)⟩] [] [0, 5, 8, 9, 10, 11])
  (.seq
  (.cond (.tmp 11)
  (.skip)
  (.ext 0))
  (.seq
  (.blk 1 (.seq
  (.reg [⟨some 12, none, .iaS 3 (.tmp 8) (.tmp 10)⟩,
    ⟨some 13, none, .ld (some 3) (.tmp 12)⟩,
    ⟨some 7, none, .zer 48 (.agg [(.int .i64 0), (.int .i64 0), (.int .i64 0)])⟩,
    ⟨none, none, .st 3 (.tmp 7) (.tmp 13)⟩] [] [0, 5, 7, 8, 9, 10])
  (.reg [⟨some 14, none, .mv (.tmp 5)⟩,
    ⟨some 15, none, .mv (.tmp 0)⟩,
    ⟨some 16, none, .faddr 0 (.tmp 7)⟩,
    ⟨some 17, none, .ld none (.tmp 16)⟩,
    ⟨some 18, none, .faddr 1 (.tmp 7)⟩,
    ⟨some 19, none, .ld none (.tmp 18)⟩,
    ⟨some 20, none, .call 59 .pure [(.tmp 17), (.tmp 19)]⟩,
    ⟨some 21, none, .iaS 1 (.tmp 15) (.tmp 20)⟩,
    ⟨some 22, none, .ld none (.tmp 21)⟩,
    ⟨some 23, none, .bsl 1 1 [(.int .i64 0)] [(0, 1, (.tmp 22))]⟩,
    ⟨some 24, none, .app 3 1 8 (.tmp 14) (.tmp 23)⟩,
    ⟨some 5, none, .mv (.tmp 24)⟩] [] [0, 5, 8, 9, 10])))
  (.reg [⟨some 25, none, .bin .add (.tmp 10) (.val (.int .i64 1))⟩,
    ⟨some 10, none, .mv (.tmp 25)⟩] [] [0, 5, 8, 9, 10]))))))))
  (.seq
  (.reg [⟨some 26, none, .mv (.tmp 5)⟩,
    ⟨some 27, none, .call 102 .opn [(.tmp 26)]⟩] [] [5])
  (.seq
  (.reg [⟨some 28, none, .mv (.tmp 5)⟩,
    ⟨some 29, none, .call 103 .opn [(.tmp 28)]⟩,
    ⟨some 4, none, .mv (.tmp 29)⟩] [] [4])
  (.ret)))))⟩
theorem pf79_ok : fnOk Try.prog 79 pf79 = true := by kernel_rfl

/-- hinterland/block.askers -/
def pf80 : PFn := ⟨79, 4, [.tmp 8], .seq
  (.reg [⟨some 4, none, .boxp 25 (.tmp 0)⟩,
    ⟨some 8, none, .mv (.val (.list .nil 1 []))⟩] [] [1, 2, 3, 4])
  (.seq
  (.reg [⟨some 17, none, .mv (.tmp 1)⟩,
    ⟨some 18, none, .len (.tmp 17)⟩,
    ⟨some 19, none, .mks 110 3 32 [(.list .nil 1 []), (.bool false), (.bool false)] (.tmp 18) (.tmp 18)⟩,
    ⟨some 9, none, .mv (.tmp 19)⟩] [] [1, 2, 3, 4, 9])
  (.seq
  (.seq
  (.reg [⟨some 20, none, .mv (.tmp 1)⟩,
    ⟨some 21, none, .len (.tmp 20)⟩,
    ⟨some 22, none, .mv (.val (.int .i64 0))⟩] [] [2, 3, 4, 9, 20, 21, 22])
  (.blk 0 (.loop (.trim (.seq
  (.reg [⟨some 23, none, .bin .lss (.tmp 22) (.tmp 21)⟩] [] [2, 3, 4, 9, 20, 21, 22, 23])
  (.seq
  (.cond (.tmp 23)
  (.skip)
  (.ext 0))
  (.seq
  (.blk 1 (.seq
  (.reg [⟨some 24, none, .mv (.tmp 22)⟩,
    ⟨some 25, none, .iaS 4 (.tmp 20) (.tmp 22)⟩,
    ⟨some 26, none, .ld (some 4) (.tmp 25)⟩,
    ⟨some 11, none, .zer 45 (.agg [(.int .i64 0), (.int .i64 0), (.int .i64 0), (.int .i64 0)])⟩,
    ⟨some 10, none, .mv (.tmp 24)⟩,
    ⟨none, none, .st 4 (.tmp 11) (.tmp 26)⟩] [] [2, 3, 4, 9, 10, 11, 20, 21, 22])
  (.seq
  (.reg [⟨some 28, none, .ld (some 4) (.tmp 4)⟩,
    ⟨some 29, none, .faddr 0 (.tmp 11)⟩,
    ⟨some 30, none, .ld none (.tmp 29)⟩,
    ⟨some 31, none, .faddr 1 (.tmp 11)⟩,
    ⟨some 32, none, .ld none (.tmp 31)⟩,
    ⟨some 33, none, .faddr 2 (.tmp 11)⟩,
    ⟨some 34, none, .ld none (.tmp 33)⟩,
    ⟨some 35, none, .bld [(.int .i64 0), (.int .i64 0), (.int .i64 0)] [(0, 1, (.tmp 30)), (1, 1, (.tmp 32)), (2, 1, (.tmp 34))]⟩,
    ⟨some 36, none, .call 65 .pure [(.tmp 28), (.tmp 35)]⟩,
    ⟨some 27, none, .mv (.tmp 36)⟩,
    ⟨some 37, none, .ext 0 (.tmp 27)⟩,
    ⟨some 38, none, .ext 1 (.tmp 27)⟩,
    ⟨some 12, none, .mv (.tmp 37)⟩,
    ⟨some 13, none, .mv (.tmp 38)⟩] [] [2, 3, 4, 9, 10, 11, 12, 20, 21, 22])
  (.seq
  (.reg [⟨some 39, none, .mv (.tmp 2)⟩,
    ⟨some 40, none, .mv (.tmp 12)⟩,
    ⟨some 41, none, .call 79 .pure [(.tmp 39), (.tmp 40)]⟩,
    ⟨some 42, none, .faddr 3 (.tmp 11)⟩,
    ⟨some 43, none, .ld none (.tmp 42)⟩,
    ⟨some 44, none, .bin .eql (.tmp 43) (.val (.int .i64 1))⟩,
    ⟨some 45, none, .mv (.tmp 44)⟩,
    ⟨some 46, (some (45, false)), .faddr 3 (.tmp 11)⟩,
    ⟨some 47, (some (45, false)), .ld none (.tmp 46)⟩,
    ⟨some 48, (some (45, false)), .bin .eql (.tmp 47) (.val (.int .i64 3))⟩,
    ⟨some 49, none, .pick (.tmp 45) (.val (.bool true)) (.tmp 48)⟩,
    ⟨some 50, none, .bld [(.list .nil 1 []), (.bool false), (.bool false)] [(0, 1, (.tmp 41)), (2, 1, (.tmp 49))]⟩,
    ⟨some 14, none, .zer 110 (.agg [(.list .nil 1 []), (.bool false), (.bool false)])⟩,
    ⟨none, none, .st 3 (.tmp 14) (.tmp 50)⟩] [(2, 12), (2, 13), (4, 12), (4, 13), (8, 12), (8, 13)] [2, 3, 4, 9, 10, 14, 20, 21, 22])
  (.seq
  (.reg [⟨some 51, none, .faddr 0 (.tmp 14)⟩,
    ⟨some 52, none, .ld none (.tmp 51)⟩,
    ⟨some 53, none, .len (.tmp 52)⟩,
    ⟨some 54, none, .bin .gtr (.tmp 53) (.val (.int .i64 0))⟩,
    ⟨some 55, none, .faddr 1 (.tmp 14)⟩,
    ⟨none, none, .st 1 (.tmp 55) (.tmp 54)⟩] [] [2, 3, 4, 9, 10, 14, 20, 21, 22])
  (.seq
  (.seq
  (.reg [⟨some 56, none, .faddr 0 (.tmp 14)⟩,
    ⟨some 57, none, .ld none (.tmp 56)⟩,
    ⟨some 58, none, .len (.tmp 57)⟩,
    ⟨some 59, none, .mv (.val (.int .i64 0))⟩] [] [2, 3, 4, 9, 10, 14, 20, 21, 22, 57, 58, 59])
  (.blk 2 (.loop (.seq
  (.reg [⟨some 60, none, .bin .lss (.tmp 59) (.tmp 58)⟩] [] [2, 3, 4, 9, 10, 14, 20, 21, 22, 57, 58, 59, 60])
  (.seq
  (.cond (.tmp 60)
  (.skip)
  (.ext 2))
  (.seq
  (.blk 3 (.seq
  (.reg [⟨some 61, none, .iaS 1 (.tmp 57) (.tmp 59)⟩,
    ⟨some 62, none, .ld none (.tmp 61)⟩,
    ⟨some 16, none, .mv (.tmp 62)⟩] [] [2, 3, 4, 9, 10, 14, 16, 20, 21, 22, 57, 58, 59])
  (.reg [⟨some 63, none, .faddr 1 (.tmp 14)⟩,
    ⟨some 64, none, .ld none (.tmp 63)⟩,
    ⟨some 65, none, .mv (.tmp 64)⟩,
    ⟨some 66, (some (65, true)), .mv (.tmp 3)⟩,
    ⟨some 67, (some (65, true)), .mv (.tmp 16)⟩,
    ⟨some 68, (some (65, true)), .call 104 .pure [(.tmp 66), (.tmp 67)]⟩,
    ⟨some 69, (some (65, true)), .un .not (.tmp 68)⟩,
    ⟨some 70, none, .pick (.tmp 65) (.tmp 69) (.val (.bool false))⟩,
    ⟨some 71, none, .faddr 1 (.tmp 14)⟩,
    ⟨none, none, .st 1 (.tmp 71) (.tmp 70)⟩] [] [2, 3, 4, 9, 10, 14, 20, 21, 22, 57, 58, 59])))
  (.reg [⟨some 72, none, .bin .add (.tmp 59) (.val (.int .i64 1))⟩,
    ⟨some 59, none, .mv (.tmp 72)⟩] [] [2, 3, 4, 9, 10, 14, 20, 21, 22, 57, 58, 59])))))))
  (.reg [⟨some 73, none, .mv (.tmp 9)⟩,
    ⟨some 74, none, .mv (.tmp 10)⟩,
    ⟨some 75, none, .ld (some 3) (.tmp 14)⟩,
    ⟨some 76, none, .iaS 3 (.tmp 73) (.tmp 74)⟩,
    ⟨none, none, .st 3 (.tmp 76) (.tmp 75)⟩] [] [2, 3, 4, 9, 20, 21, 22])))))))
  (.reg [⟨some 77, none, .bin .add (.tmp 22) (.val (.int .i64 1))⟩,
    ⟨some 22, none, .mv (.tmp 77)⟩] [] [2, 3, 4, 9, 20, 21, 22]))))))))
  (.seq
  (.reg [⟨some 78, none, .mv (.tmp 9)⟩,
    ⟨some 8, none, .mv (.tmp 78)⟩] [] [8])
  (.ret))))⟩
theorem pf80_ok : fnOk Try.prog 80 pf80 = true := by kernel_rfl

/-- hinterland/block.open -/
def pf81 : PFn := ⟨30, 5, [.tmp 10], .seq
  (.reg [⟨some 10, none, .mv (.val (.bool false))⟩] [] [0, 1, 2, 3, 4])
  (.seq
  (.reg [⟨some 11, none, .mv (.val (.bool true))⟩] [] [0, 1, 2, 3, 4, 11])
  (.seq
  (.seq
  (.reg [⟨some 13, none, .mv (.tmp 0)⟩,
    ⟨some 14, none, .len (.tmp 13)⟩,
    ⟨some 15, none, .mv (.val (.int .i64 0))⟩] [] [0, 1, 2, 3, 4, 11, 14, 15])
  (.blk 0 (.loop (.seq
  (.reg [⟨some 16, none, .bin .lss (.tmp 15) (.tmp 14)⟩] [] [0, 1, 2, 3, 4, 11, 14, 15, 16])
  (.seq
  (.cond (.tmp 16)
  (.skip)
  (.ext 0))
  (.seq
  (.blk 1 (.seq
  (.reg [⟨some 17, none, .mv (.tmp 15)⟩,
    ⟨some 12, none, .mv (.tmp 17)⟩] [] [0, 1, 2, 3, 4, 11, 12, 14, 15])
  (.seq
  (.reg [⟨some 18, none, .mv (.tmp 0)⟩,
    ⟨some 19, none, .mv (.tmp 1)⟩,
    ⟨some 20, none, .mv (.tmp 3)⟩,
    ⟨some 21, none, .mv (.tmp 12)⟩,
    ⟨some 22, none, .mv (.tmp 4)⟩,
    ⟨some 23, none, .call 105 .pure [(.tmp 18), (.tmp 19), (.tmp 20), (.tmp 21), (.tmp 22)]⟩] [] [0, 1, 2, 3, 4, 11, 12, 14, 15, 23])
  (.cond (.tmp 23)
  (.seq
  (.seq
  (.reg [⟨some 24, none, .mv (.tmp 2)⟩,
    ⟨some 25, none, .mv (.tmp 12)⟩,
    ⟨some 26, none, .iaS 1 (.tmp 24) (.tmp 25)⟩,
    ⟨some 27, none, .ld none (.tmp 26)⟩] [] [0, 1, 2, 3, 4, 14, 15, 27])
  (.cond (.tmp 27)
  (.seq
  (.reg [⟨some 10, none, .mv (.val (.bool true))⟩] [] [10])
  (.ret))
  (.skip)))
  (.reg [⟨some 11, none, .mv (.val (.bool false))⟩] [] [0, 1, 2, 3, 4, 11, 14, 15]))
  (.skip)))))
  (.reg [⟨some 28, none, .bin .add (.tmp 15) (.val (.int .i64 1))⟩,
    ⟨some 15, none, .mv (.tmp 28)⟩] [] [0, 1, 2, 3, 4, 11, 14, 15])))))))
  (.seq
  (.reg [⟨some 29, none, .mv (.tmp 11)⟩,
    ⟨some 10, none, .mv (.tmp 29)⟩] [] [10])
  (.ret))))⟩
theorem pf81_ok : fnOk Try.prog 81 pf81 = true := by kernel_rfl

/-- hinterland/hinterlandref03.second -/
def pf82 : PFn := ⟨14, 1, [.tmp 2], .seq
  (.reg [⟨some 2, none, .mv (.val (.int .i64 0))⟩] [] [0])
  (.seq
  (.seq
  (.reg [⟨some 3, none, .mv (.tmp 0)⟩] [] [3])
  (.blk 0 (.seq
  (.seq
  (.reg [⟨some 5, none, .bin .eql (.tmp 3) (.val (.int .i64 0))⟩,
    ⟨some 4, none, .mv (.tmp 5)⟩] [] [3, 4])
  (.cond (.tmp 4)
  (.skip)
  (.reg [⟨some 6, none, .bin .eql (.tmp 3) (.val (.int .i64 3))⟩,
    ⟨some 4, none, .mv (.tmp 6)⟩] [] [3, 4])))
  (.cond (.tmp 4)
  (.seq
  (.reg [⟨some 2, none, .mv (.val (.int .i64 2))⟩] [] [2])
  (.ret))
  (.seq
  (.seq
  (.reg [⟨some 8, none, .bin .eql (.tmp 3) (.val (.int .i64 1))⟩,
    ⟨some 7, none, .mv (.tmp 8)⟩] [] [3, 7])
  (.cond (.tmp 7)
  (.skip)
  (.reg [⟨some 9, none, .bin .eql (.tmp 3) (.val (.int .i64 4))⟩,
    ⟨some 7, none, .mv (.tmp 9)⟩] [] [3, 7])))
  (.cond (.tmp 7)
  (.seq
  (.reg [⟨some 2, none, .mv (.val (.int .i64 3))⟩] [] [2])
  (.ret))
  (.seq
  (.reg [⟨some 11, none, .bin .eql (.tmp 3) (.val (.int .i64 2))⟩,
    ⟨some 10, none, .mv (.tmp 11)⟩] [] [3, 10])
  (.cond (.tmp 10)
  (.seq
  (.reg [⟨some 2, none, .mv (.val (.int .i64 1))⟩] [] [2])
  (.ret))
  (.seq
  (.reg [⟨some 13, none, .bin .eql (.tmp 3) (.val (.int .i64 5))⟩,
    ⟨some 12, none, .mv (.tmp 13)⟩] [] [12])
  (.cond (.tmp 12)
  (.seq
  (.reg [⟨some 2, none, .mv (.val (.int .i64 0))⟩] [] [2])
  (.ret))
  (.skip)))))))))))
  (.seq
  (.reg [⟨some 2, none, .mv (.val (.int .i64 (-1)))⟩] [] [2])
  (.ret)))⟩
theorem pf82_ok : fnOk Try.prog 82 pf82 = true := by kernel_rfl

/-- cmp.Or[int] -/
def pf83 : PFn := ⟨18, 1, [.tmp 2], .seq
  (.reg [⟨some 2, none, .mv (.val (.int .i64 0))⟩] [] [0])
  (.seq
  (.reg [⟨some 3, none, .mv (.val (.int .i64 0))⟩] [] [0, 3])
  (.seq
  (.seq
  (.reg [⟨some 6, none, .mv (.tmp 0)⟩,
    ⟨some 7, none, .len (.tmp 6)⟩,
    ⟨some 8, none, .mv (.val (.int .i64 0))⟩] [] [3, 6, 7, 8])
  (.blk 0 (.loop (.seq
  (.reg [⟨some 9, none, .bin .lss (.tmp 8) (.tmp 7)⟩] [] [3, 6, 7, 8, 9])
  (.seq
  (.cond (.tmp 9)
  (.skip)
  (.ext 0))
  (.seq
  (.blk 1 (.seq
  (.reg [⟨some 10, none, .iaS 1 (.tmp 6) (.tmp 8)⟩,
    ⟨some 11, none, .ld none (.tmp 10)⟩,
    ⟨some 5, none, .mv (.tmp 11)⟩] [] [3, 5, 6, 7, 8])
  (.seq
  (.reg [⟨some 12, none, .mv (.tmp 5)⟩,
    ⟨some 13, none, .mv (.tmp 3)⟩,
    ⟨some 14, none, .bin .neq (.tmp 12) (.tmp 13)⟩] [] [3, 5, 6, 7, 8, 14])
  (.cond (.tmp 14)
  (.seq
  (.reg [⟨some 15, none, .mv (.tmp 5)⟩,
    ⟨some 2, none, .mv (.tmp 15)⟩] [] [2])
  (.ret))
  (.skip)))))
  (.reg [⟨some 16, none, .bin .add (.tmp 8) (.val (.int .i64 1))⟩,
    ⟨some 8, none, .mv (.tmp 16)⟩] [] [3, 6, 7, 8])))))))
  (.seq
  (.reg [⟨some 17, none, .mv (.tmp 3)⟩,
    ⟨some 2, none, .mv (.tmp 17)⟩] [] [2])
  (.ret))))⟩
theorem pf83_ok : fnOk Try.prog 83 pf83 = true := by kernel_rfl

/-- cmp.Compare[int] -/
def pf84 : PFn := ⟨20, 2, [.tmp 4], .seq
  (.reg [⟨some 4, none, .mv (.val (.int .i64 0))⟩] [] [0, 1])
  (.seq
  (.reg [⟨some 7, none, .mv (.tmp 0)⟩,
    ⟨some 8, none, .call 106 .pure [(.tmp 7)]⟩,
    ⟨some 5, none, .mv (.tmp 8)⟩] [] [0, 1, 5])
  (.seq
  (.reg [⟨some 9, none, .mv (.tmp 1)⟩,
    ⟨some 10, none, .call 106 .pure [(.tmp 9)]⟩,
    ⟨some 6, none, .mv (.tmp 10)⟩] [] [0, 1, 5, 6])
  (.seq
  (.seq
  (.reg [⟨some 11, none, .mv (.tmp 5)⟩] [] [0, 1, 6, 11])
  (.cond (.tmp 11)
  (.seq
  (.seq
  (.reg [⟨some 12, none, .mv (.tmp 6)⟩] [] [12])
  (.cond (.tmp 12)
  (.seq
  (.reg [⟨some 4, none, .mv (.val (.int .i64 0))⟩] [] [4])
  (.ret))
  (.skip)))
  (.seq
  (.reg [⟨some 4, none, .mv (.val (.int .i64 (-1)))⟩] [] [4])
  (.ret)))
  (.skip)))
  (.seq
  (.seq
  (.reg [⟨some 13, none, .mv (.tmp 6)⟩] [] [0, 1, 13])
  (.cond (.tmp 13)
  (.seq
  (.reg [⟨some 4, none, .mv (.val (.int .i64 1))⟩] [] [4])
  (.ret))
  (.skip)))
  (.seq
  (.seq
  (.reg [⟨some 14, none, .mv (.tmp 0)⟩,
    ⟨some 15, none, .mv (.tmp 1)⟩,
    ⟨some 16, none, .bin .lss (.tmp 14) (.tmp 15)⟩] [] [0, 1, 16])
  (.cond (.tmp 16)
  (.seq
  (.reg [⟨some 4, none, .mv (.val (.int .i64 (-1)))⟩] [] [4])
  (.ret))
  (.skip)))
  (.seq
  (.seq
  (.reg [⟨some 17, none, .mv (.tmp 0)⟩,
    ⟨some 18, none, .mv (.tmp 1)⟩,
    ⟨some 19, none, .bin .gtr (.tmp 17) (.tmp 18)⟩] [] [19])
  (.cond (.tmp 19)
  (.seq
  (.reg [⟨some 4, none, .mv (.val (.int .i64 1))⟩] [] [4])
  (.ret))
  (.skip)))
  (.seq
  (.reg [⟨some 4, none, .mv (.val (.int .i64 0))⟩] [] [4])
  (.ret))))))))⟩
theorem pf84_ok : fnOk Try.prog 84 pf84 = true := by kernel_rfl

/-- hinterland/rail.Ends -/
def pf85 : PFn := ⟨22, 1, [.tmp 2, .tmp 3, .tmp 4], .seq
  (.reg [⟨some 2, none, .mv (.val (.int .i64 0))⟩,
    ⟨some 3, none, .mv (.val (.int .i64 0))⟩,
    ⟨some 4, none, .mv (.val (.int .i64 0))⟩] [] [0])
  (.seq
  (.seq
  (.reg [⟨some 5, none, .mv (.tmp 0)⟩] [] [0, 5])
  (.blk 0 (.seq
  (.seq
  (.reg [⟨some 7, none, .bin .eql (.tmp 5) (.val (.int .i64 0))⟩,
    ⟨some 6, none, .mv (.tmp 7)⟩] [] [0, 5, 6])
  (.cond (.tmp 6)
  (.skip)
  (.reg [⟨some 8, none, .bin .eql (.tmp 5) (.val (.int .i64 1))⟩,
    ⟨some 6, none, .mv (.tmp 8)⟩] [] [0, 5, 6])))
  (.cond (.tmp 6)
  (.seq
  (.reg [⟨some 9, none, .mv (.tmp 0)⟩,
    ⟨some 10, none, .mv (.tmp 0)⟩,
    ⟨some 11, none, .bin .add (.tmp 10) (.val (.int .i64 2))⟩,
    ⟨some 2, none, .mv (.tmp 9)⟩,
    ⟨some 3, none, .mv (.tmp 11)⟩,
    ⟨some 4, none, .mv (.val (.int .i64 0))⟩] [] [2, 3, 4])
  (.ret))
  (.seq
  (.seq
  (.reg [⟨some 13, none, .bin .eql (.tmp 5) (.val (.int .i64 2))⟩,
    ⟨some 12, none, .mv (.tmp 13)⟩] [] [0, 5, 12])
  (.cond (.tmp 12)
  (.skip)
  (.seq
  (.reg [⟨some 14, none, .bin .eql (.tmp 5) (.val (.int .i64 3))⟩,
    ⟨some 12, none, .mv (.tmp 14)⟩] [] [0, 5, 12])
  (.cond (.tmp 12)
  (.skip)
  (.seq
  (.reg [⟨some 15, none, .bin .eql (.tmp 5) (.val (.int .i64 4))⟩,
    ⟨some 12, none, .mv (.tmp 15)⟩] [] [0, 5, 12])
  (.cond (.tmp 12)
  (.skip)
  (.reg [⟨some 16, none, .bin .eql (.tmp 5) (.val (.int .i64 5))⟩,
    ⟨some 12, none, .mv (.tmp 16)⟩] [] [0, 12])))))))
  (.cond (.tmp 12)
  (.seq
  (.reg [⟨some 17, none, .mv (.tmp 0)⟩,
    ⟨some 18, none, .bin .sub (.tmp 17) (.val (.int .i64 2))⟩,
    ⟨some 19, none, .mv (.tmp 0)⟩,
    ⟨some 20, none, .bin .sub (.tmp 19) (.val (.int .i64 1))⟩,
    ⟨some 21, none, .bin .rem (.tmp 20) (.val (.int .i64 4))⟩,
    ⟨some 2, none, .mv (.tmp 18)⟩,
    ⟨some 3, none, .mv (.tmp 21)⟩,
    ⟨some 4, none, .mv (.val (.int .i64 0))⟩] [] [2, 3, 4])
  (.ret))
  (.skip)))))))
  (.seq
  (.reg [⟨some 2, none, .mv (.val (.int .i64 0))⟩,
    ⟨some 3, none, .mv (.val (.int .i64 0))⟩,
    ⟨some 4, none, .mv (.val (.int .i64 1))⟩] [] [2, 3, 4])
  (.ret)))⟩
theorem pf85_ok : fnOk Try.prog 85 pf85 = true := by kernel_rfl

/-- hinterland/hinterlandref07.touch -/
def pf86 : PFn := ⟨38, 2, [.tmp 4], .seq
  (.reg [⟨some 4, none, .mv (.val (.bool false))⟩] [] [0, 1])
  (.seq
  (.reg [⟨some 5, none, .mv (.tmp 0)⟩,
    ⟨some 6, none, .mv (.tmp 1)⟩,
    ⟨some 7, none, .bin .neq (.tmp 5) (.tmp 6)⟩,
    ⟨some 8, none, .mv (.tmp 7)⟩,
    ⟨some 9, (some (8, true)), .mv (.tmp 0)⟩,
    ⟨some 10, (some (8, true)), .mv (.tmp 1)⟩,
    ⟨some 11, (some (8, true)), .bin .add (.tmp 9) (.tmp 10)⟩,
    ⟨some 12, (some (8, true)), .bin .neq (.tmp 11) (.val (.int .i64 6))⟩,
    ⟨some 13, none, .pick (.tmp 8) (.tmp 12) (.val (.bool false))⟩,
    ⟨some 14, none, .mv (.tmp 13)⟩,
    ⟨some 15, (some (14, true)), .mv (.tmp 0)⟩,
    ⟨some 16, (some (14, true)), .mv (.tmp 1)⟩,
    ⟨some 17, (some (14, true)), .bin .add (.tmp 15) (.tmp 16)⟩,
    ⟨some 18, (some (14, true)), .bin .neq (.tmp 17) (.val (.int .i64 8))⟩,
    ⟨some 19, none, .pick (.tmp 14) (.tmp 18) (.val (.bool false))⟩,
    ⟨some 20, none, .mv (.tmp 19)⟩,
    ⟨some 21, (some (20, false)), .mv (.tmp 0)⟩,
    ⟨some 22, (some (20, false)), .mv (.tmp 1)⟩,
    ⟨some 23, (some (20, false)), .bin .neq (.tmp 21) (.tmp 22)⟩,
    ⟨some 24, (some (20, false)), .mv (.tmp 23)⟩,
    ⟨some 25, (some (24, true)), .mv (.tmp 0)⟩,
    ⟨some 26, (some (24, true)), .bin .lss (.tmp 25) (.val (.int .i64 2))⟩,
    ⟨some 27, (some (20, false)), .pick (.tmp 24) (.tmp 26) (.val (.bool false))⟩,
    ⟨some 28, none, .pick (.tmp 20) (.val (.bool true)) (.tmp 27)⟩,
    ⟨some 29, none, .mv (.tmp 28)⟩,
    ⟨some 30, (some (29, false)), .mv (.tmp 0)⟩,
    ⟨some 31, (some (29, false)), .mv (.tmp 1)⟩,
    ⟨some 32, (some (29, false)), .bin .neq (.tmp 30) (.tmp 31)⟩,
    ⟨some 33, (some (29, false)), .mv (.tmp 32)⟩,
    ⟨some 34, (some (33, true)), .mv (.tmp 1)⟩,
    ⟨some 35, (some (33, true)), .bin .lss (.tmp 34) (.val (.int .i64 2))⟩,
    ⟨some 36, (some (29, false)), .pick (.tmp 33) (.tmp 35) (.val (.bool false))⟩,
    ⟨some 37, none, .pick (.tmp 29) (.val (.bool true)) (.tmp 36)⟩,
    ⟨some 4, none, .mv (.tmp 37)⟩] [] [4])
  (.ret))⟩
theorem pf86_ok : fnOk Try.prog 86 pf86 = true := by kernel_rfl

/-- hinterland/hinterlandref03.Beyond -/
def pf87 : PFn := ⟨55, 4, [.tmp 8], .seq
  (.reg [⟨some 8, none, .mv (.val (.int .i64 0))⟩] [] [0, 1, 2, 3])
  (.seq
  (.reg [⟨some 11, none, .mv (.tmp 2)⟩,
    ⟨some 12, none, .mv (.tmp 0)⟩,
    ⟨some 13, none, .bin .rem (.tmp 11) (.tmp 12)⟩,
    ⟨some 14, none, .mv (.tmp 2)⟩,
    ⟨some 15, none, .mv (.tmp 0)⟩,
    ⟨some 16, none, .bin .quo (.tmp 14) (.tmp 15)⟩,
    ⟨some 9, none, .mv (.tmp 13)⟩,
    ⟨some 10, none, .mv (.tmp 16)⟩] [] [0, 1, 3, 9, 10])
  (.seq
  (.seq
  (.reg [⟨some 17, none, .mv (.tmp 3)⟩] [] [0, 1, 9, 10, 17])
  (.blk 0 (.seq
  (.reg [⟨some 19, none, .bin .eql (.tmp 17) (.val (.int .i64 0))⟩,
    ⟨some 18, none, .mv (.tmp 19)⟩] [] [0, 1, 9, 10, 17, 18])
  (.cond (.tmp 18)
  (.reg [⟨some 20, none, .mv (.tmp 9)⟩,
    ⟨some 21, none, .bin .add (.tmp 20) (.val (.int .i64 1))⟩,
    ⟨some 9, none, .mv (.tmp 21)⟩] [] [0, 1, 9, 10])
  (.seq
  (.reg [⟨some 23, none, .bin .eql (.tmp 17) (.val (.int .i64 1))⟩,
    ⟨some 22, none, .mv (.tmp 23)⟩] [] [0, 1, 9, 10, 17, 22])
  (.cond (.tmp 22)
  (.reg [⟨some 24, none, .mv (.tmp 10)⟩,
    ⟨some 25, none, .bin .add (.tmp 24) (.val (.int .i64 1))⟩,
    ⟨some 10, none, .mv (.tmp 25)⟩] [] [0, 1, 9, 10])
  (.seq
  (.reg [⟨some 27, none, .bin .eql (.tmp 17) (.val (.int .i64 2))⟩,
    ⟨some 26, none, .mv (.tmp 27)⟩] [] [0, 1, 9, 10, 17, 26])
  (.cond (.tmp 26)
  (.reg [⟨some 28, none, .mv (.tmp 9)⟩,
    ⟨some 29, none, .bin .sub (.tmp 28) (.val (.int .i64 1))⟩,
    ⟨some 9, none, .mv (.tmp 29)⟩] [] [0, 1, 9, 10])
  (.seq
  (.reg [⟨some 31, none, .bin .eql (.tmp 17) (.val (.int .i64 3))⟩,
    ⟨some 30, none, .mv (.tmp 31)⟩] [] [0, 1, 9, 10, 30])
  (.cond (.tmp 30)
  (.reg [⟨some 32, none, .mv (.tmp 10)⟩,
    ⟨some 33, none, .bin .sub (.tmp 32) (.val (.int .i64 1))⟩,
    ⟨some 10, none, .mv (.tmp 33)⟩] [] [0, 1, 9, 10])
  (.skip)))))))))))
  (.seq
  (.seq
  (.reg [⟨some 34, none, .mv (.tmp 9)⟩,
    ⟨some 35, none, .bin .lss (.tmp 34) (.val (.int .i64 0))⟩,
    ⟨some 36, none, .mv (.tmp 35)⟩,
    ⟨some 37, (some (36, false)), .mv (.tmp 9)⟩,
    ⟨some 38, (some (36, false)), .mv (.tmp 0)⟩,
    ⟨some 39, (some (36, false)), .bin .geq (.tmp 37) (.tmp 38)⟩,
    ⟨some 40, none, .pick (.tmp 36) (.val (.bool true)) (.tmp 39)⟩,
    ⟨some 41, none, .mv (.tmp 40)⟩,
    ⟨some 42, (some (41, false)), .mv (.tmp 10)⟩,
    ⟨some 43, (some (41, false)), .bin .lss (.tmp 42) (.val (.int .i64 0))⟩,
    ⟨some 44, none, .pick (.tmp 41) (.val (.bool true)) (.tmp 43)⟩,
    ⟨some 45, none, .mv (.tmp 44)⟩,
    ⟨some 46, (some (45, false)), .mv (.tmp 10)⟩,
    ⟨some 47, (some (45, false)), .mv (.tmp 1)⟩,
    ⟨some 48, (some (45, false)), .bin .geq (.tmp 46) (.tmp 47)⟩,
    ⟨some 49, none, .pick (.tmp 45) (.val (.bool true)) (.tmp 48)⟩] [] [0, 9, 10, 49])
  (.cond (.tmp 49)
  (.seq
  (.reg [⟨some 8, none, .mv (.val (.int .i64 (-1)))⟩] [] [8])
  (.ret))
  (.skip)))
  (.seq
  (.reg [⟨some 50, none, .mv (.tmp 10)⟩,
    ⟨some 51, none, .mv (.tmp 0)⟩,
    ⟨some 52, none, .bin .mul (.tmp 50) (.tmp 51)⟩,
    ⟨some 53, none, .mv (.tmp 9)⟩,
    ⟨some 54, none, .bin .add (.tmp 52) (.tmp 53)⟩,
    ⟨some 8, none, .mv (.tmp 54)⟩] [] [8])
  (.ret)))))⟩
theorem pf87_ok : fnOk Try.prog 87 pf87 = true := by kernel_rfl

/-- hinterland/block.joinTile -/
def pf88 : PFn := ⟨41, 3, [], .seq
  (.reg [⟨some 3, none, .boxp 25 (.tmp 0)⟩] [] [1, 2, 3])
  (.seq
  (.reg [⟨some 8, none, .mv (.val (.int .i64 0))⟩] [] [1, 2, 3, 8])
  (.blk 0 (.loop (.seq
  (.reg [⟨some 9, none, .bin .lss (.tmp 8) (.val (.int .i64 6))⟩] [] [1, 2, 3, 8, 9])
  (.seq
  (.cond (.tmp 9)
  (.skip)
  (.ext 0))
  (.seq
  (.blk 1 (.seq
  (.reg [⟨some 10, none, .mv (.tmp 8)⟩,
    ⟨some 6, none, .mv (.tmp 10)⟩] [] [1, 2, 3, 6, 8])
  (.seq
  (.reg [⟨some 11, none, .mv (.tmp 6)⟩,
    ⟨some 12, none, .mv (.val (.int .i64 0))⟩] [] [1, 2, 3, 6, 8, 11, 12])
  (.blk 2 (.loop (.seq
  (.reg [⟨some 13, none, .bin .lss (.tmp 12) (.tmp 11)⟩] [] [1, 2, 3, 6, 8, 11, 12, 13])
  (.seq
  (.cond (.tmp 13)
  (.skip)
  (.ext 2))
  (.seq
  (.blk 3 (.seq
  (.reg [⟨some 14, none, .mv (.tmp 12)⟩,
    ⟨some 7, none, .mv (.tmp 14)⟩] [] [1, 2, 3, 6, 7, 8, 11, 12])
  (.seq
  (.reg [⟨some 15, none, .ld (some 4) (.tmp 3)⟩,
    ⟨some 16, none, .mv (.tmp 2)⟩,
    ⟨some 17, none, .mv (.tmp 6)⟩,
    ⟨some 18, none, .call 54 .pure [(.tmp 15), (.tmp 16), (.tmp 17)]⟩,
    ⟨some 19, none, .mv (.tmp 18)⟩,
    ⟨some 20, (some (19, true)), .ld (some 4) (.tmp 3)⟩,
    ⟨some 21, (some (19, true)), .mv (.tmp 2)⟩,
    ⟨some 22, (some (19, true)), .mv (.tmp 7)⟩,
    ⟨some 23, (some (19, true)), .call 54 .pure [(.tmp 20), (.tmp 21), (.tmp 22)]⟩,
    ⟨some 24, none, .pick (.tmp 19) (.tmp 23) (.val (.bool false))⟩,
    ⟨some 25, none, .mv (.tmp 24)⟩,
    ⟨some 26, (some (25, true)), .mv (.tmp 6)⟩,
    ⟨some 27, (some (25, true)), .mv (.tmp 7)⟩,
    ⟨some 28, (some (25, true)), .call 107 .pure [(.tmp 26), (.tmp 27)]⟩,
    ⟨some 29, (some (25, true)), .un .not (.tmp 28)⟩,
    ⟨some 30, none, .pick (.tmp 25) (.tmp 29) (.val (.bool false))⟩] [] [1, 2, 3, 6, 7, 8, 11, 12, 30])
  (.cond (.tmp 30)
  (.reg [⟨some 31, none, .mv (.tmp 1)⟩,
    ⟨some 32, none, .mv (.tmp 2)⟩,
    ⟨some 33, none, .mv (.tmp 6)⟩,
    ⟨some 34, none, .call 59 .pure [(.tmp 32), (.tmp 33)]⟩,
    ⟨some 35, none, .mv (.tmp 2)⟩,
    ⟨some 36, none, .mv (.tmp 7)⟩,
    ⟨some 37, none, .call 59 .pure [(.tmp 35), (.tmp 36)]⟩,
    ⟨some 38, none, .call 108 .opn [(.tmp 31), (.tmp 34), (.tmp 37)]⟩] [] [1, 2, 3, 6, 8, 11, 12])
  (.skip)))))
  (.reg [⟨some 39, none, .bin .add (.tmp 12) (.val (.int .i64 1))⟩,
    ⟨some 12, none, .mv (.tmp 39)⟩] [] [1, 2, 3, 6, 8, 11, 12])))))))))
  (.reg [⟨some 40, none, .bin .add (.tmp 8) (.val (.int .i64 1))⟩,
    ⟨some 8, none, .mv (.tmp 40)⟩] [] [1, 2, 3, 8])))))))⟩
theorem pf88_ok : fnOk Try.prog 88 pf88 = true := by kernel_rfl

/-- hinterland/block.joinSide -/
def pf89 : PFn := ⟨72, 6, [], .seq
  (.reg [⟨some 6, none, .boxp 25 (.tmp 0)⟩] [] [1, 2, 3, 4, 5, 6])
  (.seq
  (.reg [⟨some 15, none, .mv (.tmp 1)⟩,
    ⟨some 16, none, .mkf (.func 109) [(.tmp 15)] []⟩,
    ⟨some 12, none, .mv (.tmp 16)⟩] [] [2, 3, 4, 5, 6, 12])
  (.seq
  (.reg [⟨some 17, none, .mv (.val (.int .i64 0))⟩] [] [2, 3, 4, 5, 6, 12, 17])
  (.blk 0 (.loop (.seq
  (.reg [⟨some 18, none, .bin .lss (.tmp 17) (.val (.int .i64 6))⟩] [] [2, 3, 4, 5, 6, 12, 17, 18])
  (.seq
  (.cond (.tmp 18)
  (.skip)
  (.ext 0))
  (.seq
  (.blk 1 (.seq
  (.reg [⟨some 19, none, .mv (.tmp 17)⟩,
    ⟨some 13, none, .mv (.tmp 19)⟩] [] [2, 3, 4, 5, 6, 12, 13, 17])
  (.seq
  (.seq
  (.reg [⟨some 20, none, .ld (some 4) (.tmp 6)⟩,
    ⟨some 21, none, .mv (.tmp 3)⟩,
    ⟨some 22, none, .mv (.tmp 13)⟩,
    ⟨some 23, none, .call 54 .pure [(.tmp 20), (.tmp 21), (.tmp 22)]⟩,
    ⟨some 24, none, .un .not (.tmp 23)⟩,
    ⟨some 25, none, .mv (.tmp 24)⟩,
    ⟨some 26, (some (25, false)), .mv (.tmp 13)⟩,
    ⟨some 27, (some (25, false)), .mv (.tmp 4)⟩,
    ⟨some 28, (some (25, false)), .call 55 .pure [(.tmp 26), (.tmp 27)]⟩,
    ⟨some 29, (some (25, false)), .un .not (.tmp 28)⟩,
    ⟨some 30, none, .pick (.tmp 25) (.val (.bool true)) (.tmp 29)⟩,
    ⟨some 31, none, .mv (.tmp 30)⟩,
    ⟨some 32, (some (31, false)), .mv (.tmp 12)⟩,
    ⟨some 33, (some (31, false)), .mv (.tmp 3)⟩,
    ⟨some 34, (some (31, false)), .mv (.tmp 13)⟩,
    ⟨some 35, (some (31, false)), .mv (.tmp 4)⟩,
    ⟨some 36, (some (31, false)), .callv (.tmp 32) .pure [(.tmp 33), (.tmp 34), (.tmp 35)]⟩,
    ⟨some 37, none, .pick (.tmp 31) (.val (.bool true)) (.tmp 36)⟩] [] [2, 3, 4, 5, 6, 12, 13, 17, 37])
  (.cond (.tmp 37)
  (.ext 1)
  (.skip)))
  (.seq
  (.reg [⟨some 38, none, .mv (.val (.int .i64 0))⟩] [] [2, 3, 4, 5, 6, 12, 13, 17, 38])
  (.blk 2 (.loop (.seq
  (.reg [⟨some 39, none, .bin .lss (.tmp 38) (.val (.int .i64 6))⟩] [] [2, 3, 4, 5, 6, 12, 13, 17, 38, 39])
  (.seq
  (.cond (.tmp 39)
  (.skip)
  (.ext 2))
  (.seq
  (.blk 3 (.seq
  (.reg [⟨some 40, none, .mv (.tmp 38)⟩,
    ⟨some 14, none, .mv (.tmp 40)⟩] [] [2, 3, 4, 5, 6, 12, 13, 14, 17, 38])
  (.seq
  (.reg [⟨some 41, none, .ld (some 4) (.tmp 6)⟩,
    ⟨some 42, none, .mv (.tmp 5)⟩,
    ⟨some 43, none, .mv (.tmp 14)⟩,
    ⟨some 44, none, .call 54 .pure [(.tmp 41), (.tmp 42), (.tmp 43)]⟩,
    ⟨some 45, none, .mv (.tmp 44)⟩,
    ⟨some 46, (some (45, true)), .mv (.tmp 14)⟩,
    ⟨some 47, (some (45, true)), .mv (.tmp 4)⟩,
    ⟨some 48, (some (45, true)), .bin .add (.tmp 47) (.val (.int .i64 2))⟩,
    ⟨some 49, (some (45, true)), .bin .rem (.tmp 48) (.val (.int .i64 4))⟩,
    ⟨some 50, (some (45, true)), .call 55 .pure [(.tmp 46), (.tmp 49)]⟩,
    ⟨some 51, none, .pick (.tmp 45) (.tmp 50) (.val (.bool false))⟩,
    ⟨some 52, none, .mv (.tmp 51)⟩,
    ⟨some 53, (some (52, true)), .mv (.tmp 12)⟩,
    ⟨some 54, (some (52, true)), .mv (.tmp 5)⟩,
    ⟨some 55, (some (52, true)), .mv (.tmp 14)⟩,
    ⟨some 56, (some (52, true)), .mv (.tmp 4)⟩,
    ⟨some 57, (some (52, true)), .bin .add (.tmp 56) (.val (.int .i64 2))⟩,
    ⟨some 58, (some (52, true)), .bin .rem (.tmp 57) (.val (.int .i64 4))⟩,
    ⟨some 59, (some (52, true)), .callv (.tmp 53) .pure [(.tmp 54), (.tmp 55), (.tmp 58)]⟩,
    ⟨some 60, (some (52, true)), .un .not (.tmp 59)⟩,
    ⟨some 61, none, .pick (.tmp 52) (.tmp 60) (.val (.bool false))⟩] [] [2, 3, 4, 5, 6, 12, 13, 14, 17, 38, 61])
  (.cond (.tmp 61)
  (.reg [⟨some 62, none, .mv (.tmp 2)⟩,
    ⟨some 63, none, .mv (.tmp 3)⟩,
    ⟨some 64, none, .mv (.tmp 13)⟩,
    ⟨some 65, none, .call 59 .pure [(.tmp 63), (.tmp 64)]⟩,
    ⟨some 66, none, .mv (.tmp 5)⟩,
    ⟨some 67, none, .mv (.tmp 14)⟩,
    ⟨some 68, none, .call 59 .pure [(.tmp 66), (.tmp 67)]⟩,
    ⟨some 69, none, .call 108 .opn [(.tmp 62), (.tmp 65), (.tmp 68)]⟩] [] [2, 3, 4, 5, 6, 12, 13, 17, 38])
  (.skip)))))
  (.reg [⟨some 70, none, .bin .add (.tmp 38) (.val (.int .i64 1))⟩,
    ⟨some 38, none, .mv (.tmp 70)⟩] [] [2, 3, 4, 5, 6, 12, 13, 17, 38]))))))))))
  (.reg [⟨some 71, none, .bin .add (.tmp 17) (.val (.int .i64 1))⟩,
    ⟨some 17, none, .mv (.tmp 71)⟩] [] [2, 3, 4, 5, 6, 12, 17]))))))))⟩
theorem pf89_ok : fnOk Try.prog 89 pf89 = true := by kernel_rfl

/-- hinterland/block.root -/
def pf90 : PFn := ⟨24, 2, [.tmp 4], .seq
  (.reg [⟨some 4, none, .mv (.val (.int .i64 0))⟩] [] [0, 1])
  (.seq
  (.seq
  (.reg [⟨some 5, none, .mv (.tmp 0)⟩,
    ⟨some 6, none, .mv (.tmp 1)⟩,
    ⟨some 7, none, .iaS 1 (.tmp 5) (.tmp 6)⟩,
    ⟨some 8, none, .ld none (.tmp 7)⟩,
    ⟨some 9, none, .mv (.tmp 1)⟩,
    ⟨some 10, none, .bin .neq (.tmp 8) (.tmp 9)⟩] [] [0, 1, 10])
  (.cond (.tmp 10)
  (.reg [⟨some 11, none, .mv (.tmp 0)⟩,
    ⟨some 12, none, .mv (.tmp 1)⟩,
    ⟨some 13, none, .mv (.tmp 0)⟩,
    ⟨some 14, none, .mv (.tmp 0)⟩,
    ⟨some 15, none, .mv (.tmp 1)⟩,
    ⟨some 16, none, .iaS 1 (.tmp 14) (.tmp 15)⟩,
    ⟨some 17, none, .ld none (.tmp 16)⟩,
    ⟨some 18, none, .call 90 .opn [(.tmp 13), (.tmp 17)]⟩,
    ⟨some 19, none, .iaS 1 (.tmp 11) (.tmp 12)⟩,
    ⟨none, none, .st 1 (.tmp 19) (.tmp 18)⟩] [] [0, 1])
  (.skip)))
  (.seq
  (.reg [⟨some 20, none, .mv (.tmp 0)⟩,
    ⟨some 21, none, .mv (.tmp 1)⟩,
    ⟨some 22, none, .iaS 1 (.tmp 20) (.tmp 21)⟩,
    ⟨some 23, none, .ld none (.tmp 22)⟩,
    ⟨some 4, none, .mv (.tmp 23)⟩] [] [4])
  (.ret)))⟩
theorem pf90_ok : fnOk Try.prog 90 pf90 = true := by kernel_rfl

/-- slices.BinarySearchFunc[[]hinterland/api.Signal,hinterland/api.Signal,hinterland/api.Signal] -/
def pf91 : PFn := ⟨49, 3, [.tmp 6, .tmp 7], .seq
  (.reg [⟨some 4, none, .boxp 45 (.tmp 1)⟩,
    ⟨some 6, none, .mv (.val (.int .i64 0))⟩,
    ⟨some 7, none, .mv (.val (.bool false))⟩] [] [0, 2, 4])
  (.seq
  (.reg [⟨some 12, none, .mv (.tmp 0)⟩,
    ⟨some 13, none, .len (.tmp 12)⟩,
    ⟨some 8, none, .mv (.tmp 13)⟩] [] [0, 2, 4, 8])
  (.seq
  (.reg [⟨some 14, none, .mv (.tmp 8)⟩,
    ⟨some 9, none, .mv (.val (.int .i64 0))⟩,
    ⟨some 10, none, .mv (.tmp 14)⟩] [] [0, 2, 4, 8, 9, 10])
  (.seq
  (.blk 0 (.loop (.seq
  (.seq
  (.reg [⟨some 15, none, .mv (.tmp 9)⟩,
    ⟨some 16, none, .mv (.tmp 10)⟩,
    ⟨some 17, none, .bin .lss (.tmp 15) (.tmp 16)⟩] [] [0, 2, 4, 8, 9, 10, 17])
  (.cond (.tmp 17)
  (.skip)
  (.ext 0)))
  (.blk 1 (.seq
  (.reg [⟨some 18, none, .mv (.tmp 9)⟩,
    ⟨some 19, none, .mv (.tmp 10)⟩,
    ⟨some 20, none, .bin .add (.tmp 18) (.tmp 19)⟩,
    ⟨some 21, none, .conv .u64 (.tmp 20)⟩,
    ⟨some 22, none, .bin .shr (.tmp 21) (.val (.int .u64 1))⟩,
    ⟨some 23, none, .conv .i64 (.tmp 22)⟩,
    ⟨some 11, none, .mv (.tmp 23)⟩] [] [0, 2, 4, 8, 9, 10, 11])
  (.seq
  (.reg [⟨some 24, none, .mv (.tmp 2)⟩,
    ⟨some 25, none, .mv (.tmp 0)⟩,
    ⟨some 26, none, .mv (.tmp 11)⟩,
    ⟨some 27, none, .iaS 4 (.tmp 25) (.tmp 26)⟩,
    ⟨some 28, none, .ld (some 4) (.tmp 27)⟩,
    ⟨some 29, none, .ld (some 4) (.tmp 4)⟩,
    ⟨some 30, none, .callv (.tmp 24) .pure [(.tmp 28), (.tmp 29)]⟩,
    ⟨some 31, none, .bin .lss (.tmp 30) (.val (.int .i64 0))⟩] [] [0, 2, 4, 8, 9, 10, 11, 31])
  (.cond (.tmp 31)
  (.reg [⟨some 32, none, .mv (.tmp 11)⟩,
    ⟨some 33, none, .bin .add (.tmp 32) (.val (.int .i64 1))⟩,
    ⟨some 9, none, .mv (.tmp 33)⟩] [] [0, 2, 4, 8, 9, 10])
  (.reg [⟨some 34, none, .mv (.tmp 11)⟩,
    ⟨some 10, none, .mv (.tmp 34)⟩] [] [0, 2, 4, 8, 9, 10]))))))))
  (.seq
  (.reg [⟨some 35, none, .mv (.tmp 9)⟩,
    ⟨some 36, none, .mv (.tmp 9)⟩,
    ⟨some 37, none, .mv (.tmp 8)⟩,
    ⟨some 38, none, .bin .lss (.tmp 36) (.tmp 37)⟩,
    ⟨some 39, none, .mv (.tmp 38)⟩,
    ⟨some 40, (some (39, true)), .mv (.tmp 2)⟩,
    ⟨some 41, (some (39, true)), .mv (.tmp 0)⟩,
    ⟨some 42, (some (39, true)), .mv (.tmp 9)⟩,
    ⟨some 43, (some (39, true)), .iaS 4 (.tmp 41) (.tmp 42)⟩,
    ⟨some 44, (some (39, true)), .ld (some 4) (.tmp 43)⟩,
    ⟨some 45, (some (39, true)), .ld (some 4) (.tmp 4)⟩,
    ⟨some 46, (some (39, true)), .callv (.tmp 40) .pure [(.tmp 44), (.tmp 45)]⟩,
    ⟨some 47, (some (39, true)), .bin .eql (.tmp 46) (.val (.int .i64 0))⟩,
    ⟨some 48, none, .pick (.tmp 39) (.tmp 47) (.val (.bool false))⟩,
    ⟨some 6, none, .mv (.tmp 35)⟩,
    ⟨some 7, none, .mv (.tmp 48)⟩] [] [6, 7])
  (.ret)))))⟩
theorem pf91_ok : fnOk Try.prog 91 pf91 = true := by kernel_rfl

/-- hinterland/hinterlandref03.spotError -/
def pf92 : PFn := ⟨18, 2, [.tmp 4], .seq
  (.reg [⟨some 2, none, .boxp 25 (.tmp 0)⟩,
    ⟨some 3, none, .boxp 48 (.tmp 1)⟩,
    ⟨some 4, none, .mv (.val (.int .i64 0))⟩] [] [2, 3])
  (.seq
  (.seq
  (.reg [⟨some 5, none, .faddr 1 (.tmp 3)⟩,
    ⟨some 6, none, .ld none (.tmp 5)⟩,
    ⟨some 7, none, .faddr 2 (.tmp 3)⟩,
    ⟨some 8, none, .ld none (.tmp 7)⟩,
    ⟨some 9, none, .call 110 .pure [(.tmp 6), (.tmp 8)]⟩,
    ⟨some 10, none, .bin .lss (.tmp 9) (.val (.int .i64 0))⟩] [] [2, 3, 10])
  (.cond (.tmp 10)
  (.seq
  (.reg [⟨some 4, none, .mv (.val (.int .i64 1))⟩] [] [4])
  (.ret))
  (.skip)))
  (.seq
  (.seq
  (.reg [⟨some 11, none, .ld (some 4) (.tmp 2)⟩,
    ⟨some 12, none, .faddr 0 (.tmp 3)⟩,
    ⟨some 13, none, .ld none (.tmp 12)⟩,
    ⟨some 14, none, .faddr 1 (.tmp 3)⟩,
    ⟨some 15, none, .ld none (.tmp 14)⟩,
    ⟨some 16, none, .call 25 .pure [(.tmp 11), (.tmp 13), (.tmp 15)]⟩,
    ⟨some 17, none, .un .not (.tmp 16)⟩] [] [17])
  (.cond (.tmp 17)
  (.seq
  (.reg [⟨some 4, none, .mv (.val (.int .i64 2))⟩] [] [4])
  (.ret))
  (.skip)))
  (.seq
  (.reg [⟨some 4, none, .mv (.val (.int .i64 0))⟩] [] [4])
  (.ret))))⟩
theorem pf92_ok : fnOk Try.prog 92 pf92 = true := by kernel_rfl

/-- hinterland/hinterlandref03.follow -/
def pf93 : PFn := ⟨46, 2, [.tmp 4], .seq
  (.reg [⟨some 2, none, .boxp 25 (.tmp 0)⟩,
    ⟨some 3, none, .boxp 48 (.tmp 1)⟩,
    ⟨some 4, none, .mv (.val (.list .nil 1 []))⟩] [] [2, 3])
  (.seq
  (.reg [⟨some 9, none, .faddr 0 (.tmp 2)⟩,
    ⟨some 10, none, .ld none (.tmp 9)⟩,
    ⟨some 11, none, .faddr 1 (.tmp 2)⟩,
    ⟨some 12, none, .ld none (.tmp 11)⟩,
    ⟨some 13, none, .faddr 0 (.tmp 3)⟩,
    ⟨some 14, none, .ld none (.tmp 13)⟩,
    ⟨some 15, none, .faddr 2 (.tmp 3)⟩,
    ⟨some 16, none, .ld none (.tmp 15)⟩,
    ⟨some 17, none, .call 87 .pure [(.tmp 10), (.tmp 12), (.tmp 14), (.tmp 16)]⟩,
    ⟨some 5, none, .mv (.tmp 17)⟩] [] [2, 3, 5])
  (.seq
  (.seq
  (.reg [⟨some 18, none, .mv (.tmp 5)⟩,
    ⟨some 19, none, .bin .lss (.tmp 18) (.val (.int .i64 0))⟩] [] [2, 3, 5, 19])
  (.cond (.tmp 19)
  (.seq
  (.reg [⟨some 4, none, .mv (.val (.list .nil 1 []))⟩] [] [4])
  (.ret))
  (.skip)))
  (.seq
  (.reg [⟨some 6, none, .nacc 48 3⟩] [] [2, 3, 5, 6])
  (.seq
  (.seq
  (.reg [⟨some 7, none, .mv (.val (.int .i64 0))⟩] [] [2, 3, 5, 6, 7])
  (.blk 0 (.loop (.seq
  (.seq
  (.reg [⟨some 20, none, .mv (.tmp 7)⟩,
    ⟨some 21, none, .bin .lss (.tmp 20) (.val (.int .i64 6))⟩] [] [2, 3, 5, 6, 7, 21])
  (.cond (.tmp 21)
  (.skip)
  (.ext 0)))
  (.seq
  (.blk 1 (.seq
  (.reg [⟨some 24, none, .mv (.tmp 7)⟩,
    ⟨some 25, none, .faddr 2 (.tmp 3)⟩,
    ⟨some 26, none, .ld none (.tmp 25)⟩,
    ⟨some 27, none, .bin .add (.tmp 26) (.val (.int .i64 2))⟩,
    ⟨some 28, none, .bin .rem (.tmp 27) (.val (.int .i64 4))⟩,
    ⟨some 29, none, .call 110 .pure [(.tmp 24), (.tmp 28)]⟩,
    ⟨some 8, none, .mv (.tmp 29)⟩] [] [2, 3, 5, 6, 7, 8])
  (.seq
  (.reg [⟨some 30, none, .mv (.tmp 8)⟩,
    ⟨some 31, none, .bin .geq (.tmp 30) (.val (.int .i64 0))⟩,
    ⟨some 32, none, .mv (.tmp 31)⟩,
    ⟨some 33, (some (32, true)), .ld (some 4) (.tmp 2)⟩,
    ⟨some 34, (some (32, true)), .mv (.tmp 5)⟩,
    ⟨some 35, (some (32, true)), .mv (.tmp 7)⟩,
    ⟨some 36, (some (32, true)), .call 25 .pure [(.tmp 33), (.tmp 34), (.tmp 35)]⟩,
    ⟨some 37, none, .pick (.tmp 32) (.tmp 36) (.val (.bool false))⟩] [] [2, 3, 5, 6, 7, 8, 37])
  (.cond (.tmp 37)
  (.reg [⟨some 38, none, .mv (.tmp 6)⟩,
    ⟨some 39, none, .mv (.tmp 5)⟩,
    ⟨some 40, none, .mv (.tmp 7)⟩,
    ⟨some 41, none, .mv (.tmp 8)⟩,
    ⟨some 42, none, .bld [(.int .i64 0), (.int .i64 0), (.int .i64 0)] [(0, 1, (.tmp 39)), (1, 1, (.tmp 40)), (2, 1, (.tmp 41))]⟩,
    ⟨some 43, none, .bsl 1 3 [(.int .i64 0), (.int .i64 0), (.int .i64 0)] [(0, 3, (.tmp 42))]⟩,
    ⟨some 44, none, .app 48 3 24 (.tmp 38) (.tmp 43)⟩,
    ⟨some 6, none, .mv (.tmp 44)⟩] [] [2, 3, 5, 6, 7])
  (.skip)))))
  (.reg [⟨some 22, none, .mv (.tmp 7)⟩,
    ⟨some 23, none, .bin .add (.tmp 22) (.val (.int .i64 1))⟩,
    ⟨some 7, none, .mv (.tmp 23)⟩] [] [2, 3, 5, 6, 7]))))))
  (.seq
  (.reg [⟨some 45, none, .mv (.tmp 6)⟩,
    ⟨some 4, none, .mv (.tmp 45)⟩] [] [4])
  (.ret))))))⟩
theorem pf93_ok : fnOk Try.prog 93 pf93 = true := by kernel_rfl

/-- hinterland/rail.all -/
def pf94 : PFn := ⟨27, 2, [.tmp 4], .seq
  (.reg [⟨some 2, none, .boxp 25 (.tmp 0)⟩,
    ⟨some 4, none, .mv (.val (.int .i64 0))⟩] [] [1, 2])
  (.seq
  (.seq
  (.reg [⟨some 9, none, .ld (some 4) (.tmp 2)⟩,
    ⟨some 10, none, .call 52 .pure [(.tmp 9)]⟩,
    ⟨some 5, none, .mv (.tmp 10)⟩] [] [1, 2, 5])
  (.seq
  (.reg [⟨some 11, none, .mv (.tmp 5)⟩,
    ⟨some 12, none, .bin .neq (.tmp 11) (.val (.int .i64 0))⟩] [] [1, 2, 5, 12])
  (.cond (.tmp 12)
  (.seq
  (.reg [⟨some 13, none, .mv (.tmp 5)⟩,
    ⟨some 4, none, .mv (.tmp 13)⟩] [] [4])
  (.ret))
  (.skip))))
  (.seq
  (.seq
  (.reg [⟨some 14, none, .mv (.tmp 1)⟩,
    ⟨some 15, none, .len (.tmp 14)⟩,
    ⟨some 16, none, .mv (.val (.int .i64 0))⟩] [] [2, 14, 15, 16])
  (.blk 0 (.loop (.trim (.seq
  (.reg [⟨some 17, none, .bin .lss (.tmp 16) (.tmp 15)⟩] [] [2, 14, 15, 16, 17])
  (.seq
  (.cond (.tmp 17)
  (.skip)
  (.ext 0))
  (.seq
  (.blk 1 (.seq
  (.reg [⟨some 18, none, .iaS 3 (.tmp 14) (.tmp 16)⟩,
    ⟨some 19, none, .ld (some 3) (.tmp 18)⟩,
    ⟨some 7, none, .zer 48 (.agg [(.int .i64 0), (.int .i64 0), (.int .i64 0)])⟩,
    ⟨none, none, .st 3 (.tmp 7) (.tmp 19)⟩] [] [2, 7, 14, 15, 16])
  (.seq
  (.reg [⟨some 20, none, .ld (some 4) (.tmp 2)⟩,
    ⟨some 21, none, .ld (some 3) (.tmp 7)⟩,
    ⟨some 22, none, .call 111 .pure [(.tmp 20), (.tmp 21)]⟩,
    ⟨some 8, none, .mv (.tmp 22)⟩] [] [2, 8, 14, 15, 16])
  (.seq
  (.reg [⟨some 23, none, .mv (.tmp 8)⟩,
    ⟨some 24, none, .bin .neq (.tmp 23) (.val (.int .i64 0))⟩] [] [2, 8, 14, 15, 16, 24])
  (.cond (.tmp 24)
  (.seq
  (.reg [⟨some 25, none, .mv (.tmp 8)⟩,
    ⟨some 4, none, .mv (.tmp 25)⟩] [] [4])
  (.ret))
  (.skip))))))
  (.reg [⟨some 26, none, .bin .add (.tmp 16) (.val (.int .i64 1))⟩,
    ⟨some 16, none, .mv (.tmp 26)⟩] [] [2, 14, 15, 16]))))))))
  (.seq
  (.reg [⟨some 4, none, .mv (.val (.int .i64 0))⟩] [] [4])
  (.ret))))⟩
theorem pf94_ok : fnOk Try.prog 94 pf94 = true := by kernel_rfl

/-- hinterland/rail.next -/
def pf95 : PFn := ⟨56, 2, [.tmp 4], .seq
  (.reg [⟨some 2, none, .boxp 25 (.tmp 0)⟩,
    ⟨some 3, none, .boxp 48 (.tmp 1)⟩,
    ⟨some 4, none, .mv (.val (.list .nil 1 []))⟩] [] [2, 3])
  (.seq
  (.reg [⟨some 12, none, .faddr 0 (.tmp 2)⟩,
    ⟨some 13, none, .ld none (.tmp 12)⟩,
    ⟨some 14, none, .faddr 1 (.tmp 2)⟩,
    ⟨some 15, none, .ld none (.tmp 14)⟩,
    ⟨some 16, none, .faddr 0 (.tmp 3)⟩,
    ⟨some 17, none, .ld none (.tmp 16)⟩,
    ⟨some 18, none, .faddr 2 (.tmp 3)⟩,
    ⟨some 19, none, .ld none (.tmp 18)⟩,
    ⟨some 20, none, .call 112 .pure [(.tmp 13), (.tmp 15), (.tmp 17), (.tmp 19)]⟩,
    ⟨some 11, none, .mv (.tmp 20)⟩,
    ⟨some 21, none, .ext 0 (.tmp 11)⟩,
    ⟨some 22, none, .ext 1 (.tmp 11)⟩,
    ⟨some 5, none, .mv (.tmp 21)⟩,
    ⟨some 6, none, .mv (.tmp 22)⟩] [] [2, 3, 5, 6])
  (.seq
  (.seq
  (.reg [⟨some 23, none, .mv (.tmp 6)⟩,
    ⟨some 24, none, .un .not (.tmp 23)⟩] [] [2, 3, 5, 24])
  (.cond (.tmp 24)
  (.seq
  (.reg [⟨some 4, none, .mv (.val (.list .nil 1 []))⟩] [] [4])
  (.ret))
  (.skip)))
  (.seq
  (.reg [⟨some 7, none, .nacc 48 3⟩] [] [2, 3, 5, 7])
  (.seq
  (.seq
  (.reg [⟨some 25, none, .mv (.val (.int .i64 0))⟩] [] [2, 3, 5, 7, 25])
  (.blk 0 (.loop (.seq
  (.reg [⟨some 26, none, .bin .lss (.tmp 25) (.val (.int .i64 6))⟩] [] [2, 3, 5, 7, 25, 26])
  (.seq
  (.cond (.tmp 26)
  (.skip)
  (.ext 0))
  (.seq
  (.blk 1 (.seq
  (.reg [⟨some 27, none, .mv (.tmp 25)⟩,
    ⟨some 8, none, .mv (.tmp 27)⟩] [] [2, 3, 5, 7, 8, 25])
  (.seq
  (.seq
  (.reg [⟨some 28, none, .faddr 2 (.tmp 2)⟩,
    ⟨some 29, none, .ld none (.tmp 28)⟩,
    ⟨some 30, none, .mv (.tmp 5)⟩,
    ⟨some 31, none, .iaS 1 (.tmp 29) (.tmp 30)⟩,
    ⟨some 32, none, .ld none (.tmp 31)⟩,
    ⟨some 33, none, .mv (.tmp 8)⟩,
    ⟨some 34, none, .bin .shr (.tmp 32) (.tmp 33)⟩,
    ⟨some 35, none, .bin .and (.tmp 34) (.val (.int .i64 1))⟩,
    ⟨some 36, none, .bin .eql (.tmp 35) (.val (.int .i64 0))⟩] [] [2, 3, 5, 7, 8, 25, 36])
  (.cond (.tmp 36)
  (.ext 1)
  (.skip)))
  (.seq
  (.reg [⟨some 38, none, .mv (.tmp 8)⟩,
    ⟨some 39, none, .faddr 2 (.tmp 3)⟩,
    ⟨some 40, none, .ld none (.tmp 39)⟩,
    ⟨some 41, none, .bin .add (.tmp 40) (.val (.int .i64 2))⟩,
    ⟨some 42, none, .bin .rem (.tmp 41) (.val (.int .i64 4))⟩,
    ⟨some 43, none, .call 113 .pure [(.tmp 38), (.tmp 42)]⟩,
    ⟨some 37, none, .mv (.tmp 43)⟩,
    ⟨some 44, none, .ext 0 (.tmp 37)⟩,
    ⟨some 45, none, .ext 1 (.tmp 37)⟩,
    ⟨some 9, none, .mv (.tmp 44)⟩,
    ⟨some 10, none, .mv (.tmp 45)⟩] [] [2, 3, 5, 7, 8, 9, 10, 25])
  (.seq
  (.reg [⟨some 46, none, .mv (.tmp 10)⟩] [] [2, 3, 5, 7, 8, 9, 25, 46])
  (.cond (.tmp 46)
  (.reg [⟨some 47, none, .mv (.tmp 7)⟩,
    ⟨some 48, none, .mv (.tmp 5)⟩,
    ⟨some 49, none, .mv (.tmp 8)⟩,
    ⟨some 50, none, .mv (.tmp 9)⟩,
    ⟨some 51, none, .bld [(.int .i64 0), (.int .i64 0), (.int .i64 0)] [(0, 1, (.tmp 48)), (1, 1, (.tmp 49)), (2, 1, (.tmp 50))]⟩,
    ⟨some 52, none, .bsl 1 3 [(.int .i64 0), (.int .i64 0), (.int .i64 0)] [(0, 3, (.tmp 51))]⟩,
    ⟨some 53, none, .app 48 3 24 (.tmp 47) (.tmp 52)⟩,
    ⟨some 7, none, .mv (.tmp 53)⟩] [] [2, 3, 5, 7, 25])
  (.skip)))))))
  (.reg [⟨some 54, none, .bin .add (.tmp 25) (.val (.int .i64 1))⟩,
    ⟨some 25, none, .mv (.tmp 54)⟩] [] [2, 3, 5, 7, 25])))))))
  (.seq
  (.reg [⟨some 55, none, .mv (.tmp 7)⟩,
    ⟨some 4, none, .mv (.tmp 55)⟩] [] [4])
  (.ret))))))⟩
theorem pf95_ok : fnOk Try.prog 95 pf95 = true := by kernel_rfl

/-- slices.Index[[]hinterland/api.Spot,hinterland/api.Spot] -/
def pf96 : PFn := ⟨19, 2, [.tmp 4], .seq
  (.reg [⟨some 3, none, .boxp 48 (.tmp 1)⟩,
    ⟨some 4, none, .mv (.val (.int .i64 0))⟩] [] [0, 3])
  (.seq
  (.seq
  (.reg [⟨some 6, none, .mv (.tmp 0)⟩,
    ⟨some 7, none, .len (.tmp 6)⟩,
    ⟨some 8, none, .mv (.val (.int .i64 0))⟩] [] [0, 3, 7, 8])
  (.blk 0 (.loop (.seq
  (.reg [⟨some 9, none, .bin .lss (.tmp 8) (.tmp 7)⟩] [] [0, 3, 7, 8, 9])
  (.seq
  (.cond (.tmp 9)
  (.skip)
  (.ext 0))
  (.seq
  (.blk 1 (.seq
  (.reg [⟨some 10, none, .mv (.tmp 8)⟩,
    ⟨some 5, none, .mv (.tmp 10)⟩] [] [0, 3, 5, 7, 8])
  (.seq
  (.reg [⟨some 11, none, .ld (some 3) (.tmp 3)⟩,
    ⟨some 12, none, .mv (.tmp 0)⟩,
    ⟨some 13, none, .mv (.tmp 5)⟩,
    ⟨some 14, none, .iaS 3 (.tmp 12) (.tmp 13)⟩,
    ⟨some 15, none, .ld (some 3) (.tmp 14)⟩,
    ⟨some 16, none, .eqs false [true, true, true] (.tmp 11) (.tmp 15)⟩] [] [0, 3, 5, 7, 8, 16])
  (.cond (.tmp 16)
  (.seq
  (.reg [⟨some 17, none, .mv (.tmp 5)⟩,
    ⟨some 4, none, .mv (.tmp 17)⟩] [] [4])
  (.ret))
  (.skip)))))
  (.reg [⟨some 18, none, .bin .add (.tmp 8) (.val (.int .i64 1))⟩,
    ⟨some 8, none, .mv (.tmp 18)⟩] [] [0, 3, 7, 8])))))))
  (.seq
  (.reg [⟨some 4, none, .mv (.val (.int .i64 (-1)))⟩] [] [4])
  (.ret)))⟩
theorem pf96_ok : fnOk Try.prog 96 pf96 = true := by kernel_rfl

/-- slices.rotateRight[hinterland/api.Signal] -/
def pf98 : PFn := ⟨10, 2, [], .reg [⟨some 4, none, .mv (.tmp 0)⟩,
    ⟨some 5, none, .mv (.tmp 0)⟩,
    ⟨some 6, none, .len (.tmp 5)⟩,
    ⟨some 7, none, .mv (.tmp 1)⟩,
    ⟨some 8, none, .bin .sub (.tmp 6) (.tmp 7)⟩,
    ⟨some 9, none, .call 114 .pure [(.tmp 4), (.tmp 8)]⟩] [] []⟩
theorem pf98_ok : fnOk Try.prog 98 pf98 = true := by kernel_rfl

/-- hinterland/rail.tile -/
def pf99 : PFn := ⟨16, 2, [.tmp 4], .seq
  (.reg [⟨some 2, none, .boxp 25 (.tmp 0)⟩,
    ⟨some 4, none, .mv (.val (.bool false))⟩] [] [1, 2])
  (.seq
  (.reg [⟨some 5, none, .mv (.tmp 1)⟩,
    ⟨some 6, none, .bin .geq (.tmp 5) (.val (.int .i64 0))⟩,
    ⟨some 7, none, .mv (.tmp 6)⟩,
    ⟨some 8, (some (7, true)), .mv (.tmp 1)⟩,
    ⟨some 9, (some (7, true)), .faddr 0 (.tmp 2)⟩,
    ⟨some 10, (some (7, true)), .ld none (.tmp 9)⟩,
    ⟨some 11, (some (7, true)), .faddr 1 (.tmp 2)⟩,
    ⟨some 12, (some (7, true)), .ld none (.tmp 11)⟩,
    ⟨some 13, (some (7, true)), .bin .mul (.tmp 10) (.tmp 12)⟩,
    ⟨some 14, (some (7, true)), .bin .lss (.tmp 8) (.tmp 13)⟩,
    ⟨some 15, none, .pick (.tmp 7) (.tmp 14) (.val (.bool false))⟩,
    ⟨some 4, none, .mv (.tmp 15)⟩] [] [4])
  (.ret))⟩
theorem pf99_ok : fnOk Try.prog 99 pf99 = true := by kernel_rfl

/-- hinterland/rail.copied -/
def pf100 : PFn := ⟨14, 1, [.cell 2 (some 4)], .seq
  (.reg [⟨some 1, none, .boxp 25 (.tmp 0)⟩,
    ⟨some 2, none, .zer 25 (.agg [(.int .i64 0), (.int .i64 0), (.list .nil 1 []), (.list .nil 1 [])])⟩] [] [1, 2])
  (.seq
  (.reg [⟨some 3, none, .faddr 0 (.tmp 1)⟩,
    ⟨some 4, none, .ld none (.tmp 3)⟩,
    ⟨some 5, none, .faddr 1 (.tmp 1)⟩,
    ⟨some 6, none, .ld none (.tmp 5)⟩,
    ⟨some 7, none, .faddr 2 (.tmp 1)⟩,
    ⟨some 8, none, .ld none (.tmp 7)⟩,
    ⟨some 9, none, .call 74 .pure [(.tmp 8)]⟩,
    ⟨some 10, none, .faddr 3 (.tmp 1)⟩,
    ⟨some 11, none, .ld none (.tmp 10)⟩,
    ⟨some 12, none, .call 75 .pure [(.tmp 11)]⟩,
    ⟨some 13, none, .bld [(.int .i64 0), (.int .i64 0), (.list .nil 1 []), (.list .nil 1 [])] [(0, 1, (.tmp 4)), (1, 1, (.tmp 6)), (2, 1, (.tmp 9)), (3, 1, (.tmp 12))]⟩,
    ⟨none, none, .st 4 (.tmp 2) (.tmp 13)⟩] [] [2])
  (.ret))⟩
theorem pf100_ok : fnOk Try.prog 100 pf100 = true := by kernel_rfl

/-- slices.IndexFunc[[]hinterland/api.Signal,hinterland/api.Signal] -/
def pf101 : PFn := ⟨19, 2, [.tmp 4], .seq
  (.reg [⟨some 4, none, .mv (.val (.int .i64 0))⟩] [] [0, 1])
  (.seq
  (.seq
  (.reg [⟨some 6, none, .mv (.tmp 0)⟩,
    ⟨some 7, none, .len (.tmp 6)⟩,
    ⟨some 8, none, .mv (.val (.int .i64 0))⟩] [] [0, 1, 7, 8])
  (.blk 0 (.loop (.seq
  (.reg [⟨some 9, none, .bin .lss (.tmp 8) (.tmp 7)⟩] [] [0, 1, 7, 8, 9])
  (.seq
  (.cond (.tmp 9)
  (.skip)
  (.ext 0))
  (.seq
  (.blk 1 (.seq
  (.reg [⟨some 10, none, .mv (.tmp 8)⟩,
    ⟨some 5, none, .mv (.tmp 10)⟩] [] [0, 1, 5, 7, 8])
  (.seq
  (.reg [⟨some 11, none, .mv (.tmp 1)⟩,
    ⟨some 12, none, .mv (.tmp 0)⟩,
    ⟨some 13, none, .mv (.tmp 5)⟩,
    ⟨some 14, none, .iaS 4 (.tmp 12) (.tmp 13)⟩,
    ⟨some 15, none, .ld (some 4) (.tmp 14)⟩,
    ⟨some 16, none, .callv (.tmp 11) .pure [(.tmp 15)]⟩] [] [0, 1, 5, 7, 8, 16])
  (.cond (.tmp 16)
  (.seq
  (.reg [⟨some 17, none, .mv (.tmp 5)⟩,
    ⟨some 4, none, .mv (.tmp 17)⟩] [] [4])
  (.ret))
  (.skip)))))
  (.reg [⟨some 18, none, .bin .add (.tmp 8) (.val (.int .i64 1))⟩,
    ⟨some 8, none, .mv (.tmp 18)⟩] [] [0, 1, 7, 8])))))))
  (.seq
  (.reg [⟨some 4, none, .mv (.val (.int .i64 (-1)))⟩] [] [4])
  (.ret)))⟩
theorem pf101_ok : fnOk Try.prog 101 pf101 = true := by kernel_rfl

/-- slices.Sort[[]int,int] -/
def pf102 : PFn := ⟨11, 1, [], .seq
  (.reg [⟨some 3, none, .mv (.tmp 0)⟩,
    ⟨some 4, none, .len (.tmp 3)⟩,
    ⟨some 2, none, .mv (.tmp 4)⟩] [] [0, 2])
  (.reg [⟨some 5, none, .mv (.tmp 0)⟩,
    ⟨some 6, none, .mv (.tmp 2)⟩,
    ⟨some 7, none, .mv (.tmp 2)⟩,
    ⟨some 8, none, .conv .u64 (.tmp 7)⟩,
    ⟨some 9, none, .call 116 .pure [(.tmp 8)]⟩,
    ⟨some 10, none, .call 115 .opn [(.tmp 5), (.val (.int .i64 0)), (.tmp 6), (.tmp 9)]⟩] [] [])⟩
theorem pf102_ok : fnOk Try.prog 102 pf102 = true := by kernel_rfl

/-- slices.Compact[[]int,int] -/
def pf103 : PFn := ⟨61, 1, [.tmp 2], .seq
  (.reg [⟨some 2, none, .mv (.val (.list .nil 1 []))⟩] [] [0])
  (.seq
  (.seq
  (.reg [⟨some 6, none, .mv (.tmp 0)⟩,
    ⟨some 7, none, .len (.tmp 6)⟩,
    ⟨some 8, none, .bin .lss (.tmp 7) (.val (.int .i64 2))⟩] [] [0, 8])
  (.cond (.tmp 8)
  (.seq
  (.reg [⟨some 9, none, .mv (.tmp 0)⟩,
    ⟨some 2, none, .mv (.tmp 9)⟩] [] [2])
  (.ret))
  (.skip)))
  (.seq
  (.seq
  (.reg [⟨some 3, none, .mv (.val (.int .i64 1))⟩] [] [0, 3])
  (.blk 0 (.loop (.seq
  (.seq
  (.reg [⟨some 10, none, .mv (.tmp 3)⟩,
    ⟨some 11, none, .mv (.tmp 0)⟩,
    ⟨some 12, none, .len (.tmp 11)⟩,
    ⟨some 13, none, .bin .lss (.tmp 10) (.tmp 12)⟩] [] [0, 3, 13])
  (.cond (.tmp 13)
  (.skip)
  (.ext 0)))
  (.seq
  (.blk 1 (.seq
  (.reg [⟨some 16, none, .mv (.tmp 0)⟩,
    ⟨some 17, none, .mv (.tmp 3)⟩,
    ⟨some 18, none, .iaS 1 (.tmp 16) (.tmp 17)⟩,
    ⟨some 19, none, .ld none (.tmp 18)⟩,
    ⟨some 20, none, .mv (.tmp 0)⟩,
    ⟨some 21, none, .mv (.tmp 3)⟩,
    ⟨some 22, none, .bin .sub (.tmp 21) (.val (.int .i64 1))⟩,
    ⟨some 23, none, .iaS 1 (.tmp 20) (.tmp 22)⟩,
    ⟨some 24, none, .ld none (.tmp 23)⟩,
    ⟨some 25, none, .bin .eql (.tmp 19) (.tmp 24)⟩] [] [0, 3, 25])
  (.cond (.tmp 25)
  (.seq
  (.reg [⟨some 26, none, .mv (.tmp 0)⟩,
    ⟨some 27, none, .mv (.tmp 3)⟩,
    ⟨some 28, none, .slc 1 (.tmp 26) (some (.tmp 27)) none none⟩,
    ⟨some 4, none, .mv (.tmp 28)⟩] [] [0, 3, 4])
  (.seq
  (.seq
  (.reg [⟨some 5, none, .mv (.val (.int .i64 1))⟩] [] [0, 3, 4, 5])
  (.blk 2 (.loop (.seq
  (.seq
  (.reg [⟨some 29, none, .mv (.tmp 5)⟩,
    ⟨some 30, none, .mv (.tmp 4)⟩,
    ⟨some 31, none, .len (.tmp 30)⟩,
    ⟨some 32, none, .bin .lss (.tmp 29) (.tmp 31)⟩] [] [0, 3, 4, 5, 32])
  (.cond (.tmp 32)
  (.skip)
  (.ext 2)))
  (.seq
  (.blk 3 (.seq
  (.reg [⟨some 35, none, .mv (.tmp 4)⟩,
    ⟨some 36, none, .mv (.tmp 5)⟩,
    ⟨some 37, none, .iaS 1 (.tmp 35) (.tmp 36)⟩,
    ⟨some 38, none, .ld none (.tmp 37)⟩,
    ⟨some 39, none, .mv (.tmp 4)⟩,
    ⟨some 40, none, .mv (.tmp 5)⟩,
    ⟨some 41, none, .bin .sub (.tmp 40) (.val (.int .i64 1))⟩,
    ⟨some 42, none, .iaS 1 (.tmp 39) (.tmp 41)⟩,
    ⟨some 43, none, .ld none (.tmp 42)⟩,
    ⟨some 44, none, .bin .neq (.tmp 38) (.tmp 43)⟩] [] [0, 3, 4, 5, 44])
  (.cond (.tmp 44)
  (.seq
  (.reg [⟨some 45, none, .mv (.tmp 0)⟩,
    ⟨some 46, none, .mv (.tmp 3)⟩,
    ⟨some 47, none, .mv (.tmp 4)⟩,
    ⟨some 48, none, .mv (.tmp 5)⟩,
    ⟨some 49, none, .iaS 1 (.tmp 47) (.tmp 48)⟩,
    ⟨some 50, none, .ld none (.tmp 49)⟩,
    ⟨some 51, none, .iaS 1 (.tmp 45) (.tmp 46)⟩,
    ⟨none, none, .st 1 (.tmp 51) (.tmp 50)⟩] [] [0, 3, 4, 5])
  (.reg [⟨some 52, none, .mv (.tmp 3)⟩,
    ⟨some 53, none, .bin .add (.tmp 52) (.val (.int .i64 1))⟩,
    ⟨some 3, none, .mv (.tmp 53)⟩] [] [0, 3, 4, 5]))
  (.skip))))
  (.reg [⟨some 33, none, .mv (.tmp 5)⟩,
    ⟨some 34, none, .bin .add (.tmp 33) (.val (.int .i64 1))⟩,
    ⟨some 5, none, .mv (.tmp 34)⟩] [] [0, 3, 4, 5]))))))
  (.seq
  (.reg [⟨some 54, none, .mv (.tmp 0)⟩,
    ⟨some 55, none, .mv (.tmp 3)⟩,
    ⟨some 56, none, .slc 1 (.tmp 54) (some (.tmp 55)) none none⟩,
    ⟨none, none, .clr 1 [(.int .i64 0)] (.tmp 56)⟩] [] [0, 3])
  (.seq
  (.reg [⟨some 57, none, .mv (.tmp 0)⟩,
    ⟨some 58, none, .mv (.tmp 3)⟩,
    ⟨some 59, none, .slc 1 (.tmp 57) none (some (.tmp 58)) none⟩,
    ⟨some 2, none, .mv (.tmp 59)⟩] [] [2])
  (.ret)))))
  (.skip))))
  (.reg [⟨some 14, none, .mv (.tmp 3)⟩,
    ⟨some 15, none, .bin .add (.tmp 14) (.val (.int .i64 1))⟩,
    ⟨some 3, none, .mv (.tmp 15)⟩] [] [0, 3]))))))
  (.seq
  (.reg [⟨some 60, none, .mv (.tmp 0)⟩,
    ⟨some 2, none, .mv (.tmp 60)⟩] [] [2])
  (.ret))))⟩
theorem pf103_ok : fnOk Try.prog 103 pf103 = true := by kernel_rfl

/-- slices.Contains[[]int,int] -/
def pf104 : PFn := ⟨9, 2, [.tmp 4], .seq
  (.reg [⟨some 4, none, .mv (.val (.bool false))⟩] [] [0, 1])
  (.seq
  (.reg [⟨some 5, none, .mv (.tmp 0)⟩,
    ⟨some 6, none, .mv (.tmp 1)⟩,
    ⟨some 7, none, .call 117 .pure [(.tmp 5), (.tmp 6)]⟩,
    ⟨some 8, none, .bin .geq (.tmp 7) (.val (.int .i64 0))⟩,
    ⟨some 4, none, .mv (.tmp 8)⟩] [] [4])
  (.ret))⟩
theorem pf104_ok : fnOk Try.prog 104 pf104 = true := by kernel_rfl

/-- hinterland/block.leaves -/
def pf105 : PFn := ⟨55, 5, [.tmp 10], .seq
  (.reg [⟨some 10, none, .mv (.val (.bool false))⟩] [] [0, 1, 2, 3, 4])
  (.seq
  (.reg [⟨some 13, none, .mv (.tmp 0)⟩,
    ⟨some 14, none, .mv (.tmp 2)⟩,
    ⟨some 15, none, .iaS 4 (.tmp 13) (.tmp 14)⟩,
    ⟨some 16, none, .ld (some 4) (.tmp 15)⟩,
    ⟨some 17, none, .mv (.tmp 0)⟩,
    ⟨some 18, none, .mv (.tmp 3)⟩,
    ⟨some 19, none, .iaS 4 (.tmp 17) (.tmp 18)⟩,
    ⟨some 20, none, .ld (some 4) (.tmp 19)⟩,
    ⟨some 11, none, .zer 45 (.agg [(.int .i64 0), (.int .i64 0), (.int .i64 0), (.int .i64 0)])⟩,
    ⟨some 12, none, .zer 45 (.agg [(.int .i64 0), (.int .i64 0), (.int .i64 0), (.int .i64 0)])⟩,
    ⟨none, none, .st 4 (.tmp 11) (.tmp 16)⟩,
    ⟨none, none, .st 4 (.tmp 12) (.tmp 20)⟩] [(3, 0), (7, 0), (7, 10), (7, 11)] [1, 4, 11, 12])
  (.seq
  (.reg [⟨some 21, none, .faddr 3 (.tmp 12)⟩,
    ⟨some 22, none, .ld none (.tmp 21)⟩,
    ⟨some 23, none, .bin .eql (.tmp 22) (.val (.int .i64 2))⟩,
    ⟨some 24, none, .mv (.tmp 23)⟩,
    ⟨some 25, (some (24, false)), .faddr 3 (.tmp 12)⟩,
    ⟨some 26, (some (24, false)), .ld none (.tmp 25)⟩,
    ⟨some 27, (some (24, false)), .bin .eql (.tmp 26) (.val (.int .i64 3))⟩,
    ⟨some 28, none, .pick (.tmp 24) (.val (.bool true)) (.tmp 27)⟩,
    ⟨some 29, none, .mv (.tmp 28)⟩,
    ⟨some 30, (some (29, true)), .mv (.tmp 1)⟩,
    ⟨some 31, (some (29, true)), .faddr 0 (.tmp 12)⟩,
    ⟨some 32, (some (29, true)), .ld none (.tmp 31)⟩,
    ⟨some 33, (some (29, true)), .faddr 1 (.tmp 12)⟩,
    ⟨some 34, (some (29, true)), .ld none (.tmp 33)⟩,
    ⟨some 35, (some (29, true)), .call 59 .pure [(.tmp 32), (.tmp 34)]⟩,
    ⟨some 36, (some (29, true)), .iaS 1 (.tmp 30) (.tmp 35)⟩,
    ⟨some 37, (some (29, true)), .ld none (.tmp 36)⟩,
    ⟨some 38, (some (29, true)), .mv (.tmp 4)⟩,
    ⟨some 39, (some (29, true)), .bin .eql (.tmp 37) (.tmp 38)⟩,
    ⟨some 40, none, .pick (.tmp 29) (.tmp 39) (.val (.bool false))⟩,
    ⟨some 41, none, .mv (.tmp 40)⟩,
    ⟨some 42, (some (41, true)), .faddr 0 (.tmp 12)⟩,
    ⟨some 43, (some (41, true)), .ld none (.tmp 42)⟩,
    ⟨some 44, (some (41, true)), .faddr 0 (.tmp 11)⟩,
    ⟨some 45, (some (41, true)), .ld none (.tmp 44)⟩,
    ⟨some 46, (some (41, true)), .bin .neq (.tmp 43) (.tmp 45)⟩,
    ⟨some 47, (some (41, true)), .mv (.tmp 46)⟩,
    ⟨some 48, (some (47, false)), .faddr 1 (.tmp 12)⟩,
    ⟨some 49, (some (47, false)), .ld none (.tmp 48)⟩,
    ⟨some 50, (some (47, false)), .faddr 1 (.tmp 11)⟩,
    ⟨some 51, (some (47, false)), .ld none (.tmp 50)⟩,
    ⟨some 52, (some (47, false)), .bin .neq (.tmp 49) (.tmp 51)⟩,
    ⟨some 53, (some (41, true)), .pick (.tmp 47) (.val (.bool true)) (.tmp 52)⟩,
    ⟨some 54, none, .pick (.tmp 41) (.tmp 53) (.val (.bool false))⟩,
    ⟨some 10, none, .mv (.tmp 54)⟩] [] [10])
  (.ret)))⟩
theorem pf105_ok : fnOk Try.prog 105 pf105 = true := by kernel_rfl

/-- cmp.isNaN[int] -/
def pf106 : PFn := ⟨6, 1, [.tmp 2], .seq
  (.reg [⟨some 2, none, .mv (.val (.bool false))⟩] [] [0])
  (.seq
  (.reg [⟨some 3, none, .mv (.tmp 0)⟩,
    ⟨some 4, none, .mv (.tmp 0)⟩,
    ⟨some 5, none, .bin .neq (.tmp 3) (.tmp 4)⟩,
    ⟨some 2, none, .mv (.tmp 5)⟩] [] [2])
  (.ret))⟩
theorem pf106_ok : fnOk Try.prog 106 pf106 = true := by kernel_rfl

/-- hinterland/block.part -/
def pf107 : PFn := ⟨23, 2, [.tmp 4], .seq
  (.reg [⟨some 4, none, .mv (.val (.bool false))⟩] [] [0, 1])
  (.seq
  (.reg [⟨some 5, none, .mv (.tmp 0)⟩,
    ⟨some 6, none, .bin .geq (.tmp 5) (.val (.int .i64 2))⟩,
    ⟨some 7, none, .mv (.tmp 6)⟩,
    ⟨some 8, (some (7, true)), .mv (.tmp 1)⟩,
    ⟨some 9, (some (7, true)), .bin .geq (.tmp 8) (.val (.int .i64 2))⟩,
    ⟨some 10, none, .pick (.tmp 7) (.tmp 9) (.val (.bool false))⟩,
    ⟨some 11, none, .mv (.tmp 10)⟩,
    ⟨some 12, (some (11, true)), .mv (.tmp 0)⟩,
    ⟨some 13, (some (11, true)), .mv (.tmp 1)⟩,
    ⟨some 14, (some (11, true)), .bin .sub (.tmp 12) (.tmp 13)⟩,
    ⟨some 15, (some (11, true)), .bin .eql (.tmp 14) (.val (.int .i64 2))⟩,
    ⟨some 16, (some (11, true)), .mv (.tmp 15)⟩,
    ⟨some 17, (some (16, false)), .mv (.tmp 1)⟩,
    ⟨some 18, (some (16, false)), .mv (.tmp 0)⟩,
    ⟨some 19, (some (16, false)), .bin .sub (.tmp 17) (.tmp 18)⟩,
    ⟨some 20, (some (16, false)), .bin .eql (.tmp 19) (.val (.int .i64 2))⟩,
    ⟨some 21, (some (11, true)), .pick (.tmp 16) (.val (.bool true)) (.tmp 20)⟩,
    ⟨some 22, none, .pick (.tmp 11) (.tmp 21) (.val (.bool false))⟩,
    ⟨some 4, none, .mv (.tmp 22)⟩] [] [4])
  (.ret))⟩
theorem pf107_ok : fnOk Try.prog 107 pf107 = true := by kernel_rfl

/-- hinterland/block.join -/
def pf108 : PFn := ⟨20, 3, [], .seq
  (.reg [⟨some 6, none, .mv (.tmp 0)⟩,
    ⟨some 7, none, .mv (.tmp 1)⟩,
    ⟨some 8, none, .call 90 .opn [(.tmp 6), (.tmp 7)]⟩,
    ⟨some 9, none, .mv (.tmp 0)⟩,
    ⟨some 10, none, .mv (.tmp 2)⟩,
    ⟨some 11, none, .call 90 .opn [(.tmp 9), (.tmp 10)]⟩,
    ⟨some 1, none, .mv (.tmp 8)⟩,
    ⟨some 2, none, .mv (.tmp 11)⟩] [] [0, 1, 2])
  (.reg [⟨some 12, none, .mv (.tmp 0)⟩,
    ⟨some 13, none, .mv (.tmp 1)⟩,
    ⟨some 14, none, .mv (.tmp 2)⟩,
    ⟨some 15, none, .mx (.tmp 13) [(.tmp 14)]⟩,
    ⟨some 16, none, .mv (.tmp 1)⟩,
    ⟨some 17, none, .mv (.tmp 2)⟩,
    ⟨some 18, none, .mn (.tmp 16) [(.tmp 17)]⟩,
    ⟨some 19, none, .iaS 1 (.tmp 12) (.tmp 15)⟩,
    ⟨none, none, .st 1 (.tmp 19) (.tmp 18)⟩] [] [])⟩
theorem pf108_ok : fnOk Try.prog 108 pf108 = true := by kernel_rfl

/-- (hinterland/block.signals).stand -/
def pf109 : PFn := ⟨21, 4, [.tmp 8], .seq
  (.reg [⟨some 8, none, .mv (.val (.bool false))⟩] [] [0, 1, 2, 3])
  (.seq
  (.reg [⟨some 12, none, .mv (.tmp 0)⟩,
    ⟨some 13, none, .mv (.tmp 1)⟩,
    ⟨some 14, none, .mv (.tmp 2)⟩,
    ⟨some 15, none, .mv (.tmp 3)⟩,
    ⟨some 16, none, .bld [(.int .i64 0), (.int .i64 0), (.int .i64 0), (.int .i64 0)] [(0, 1, (.tmp 13)), (1, 1, (.tmp 14)), (2, 1, (.tmp 15))]⟩,
    ⟨some 17, none, .call 61 .pure [(.tmp 12), (.tmp 16)]⟩,
    ⟨some 11, none, .mv (.tmp 17)⟩,
    ⟨some 18, none, .ext 0 (.tmp 11)⟩,
    ⟨some 19, none, .ext 1 (.tmp 11)⟩,
    ⟨some 9, none, .mv (.tmp 18)⟩,
    ⟨some 10, none, .mv (.tmp 19)⟩] [] [10])
  (.seq
  (.reg [⟨some 20, none, .mv (.tmp 10)⟩,
    ⟨some 8, none, .mv (.tmp 20)⟩] [] [8])
  (.ret)))⟩
theorem pf109_ok : fnOk Try.prog 109 pf109 = true := by kernel_rfl

/-- hinterland/hinterlandref03.Other -/
def pf110 : PFn := ⟨19, 2, [.tmp 4], .seq
  (.reg [⟨some 4, none, .mv (.val (.int .i64 0))⟩] [] [0, 1])
  (.seq
  (.seq
  (.reg [⟨some 5, none, .mv (.tmp 1)⟩,
    ⟨some 6, none, .bin .lss (.tmp 5) (.val (.int .i64 0))⟩] [] [0, 1, 6])
  (.cond (.tmp 6)
  (.seq
  (.reg [⟨some 4, none, .mv (.val (.int .i64 (-1)))⟩] [] [4])
  (.ret))
  (.skip)))
  (.seq
  (.seq
  (.reg [⟨some 7, none, .mv (.tmp 0)⟩,
    ⟨some 8, none, .call 76 .pure [(.tmp 7)]⟩,
    ⟨some 9, none, .mv (.tmp 1)⟩,
    ⟨some 10, none, .bin .eql (.tmp 8) (.tmp 9)⟩] [] [0, 1, 10])
  (.cond (.tmp 10)
  (.seq
  (.reg [⟨some 11, none, .mv (.tmp 0)⟩,
    ⟨some 12, none, .call 82 .pure [(.tmp 11)]⟩,
    ⟨some 4, none, .mv (.tmp 12)⟩] [] [4])
  (.ret))
  (.skip)))
  (.seq
  (.seq
  (.reg [⟨some 13, none, .mv (.tmp 0)⟩,
    ⟨some 14, none, .call 82 .pure [(.tmp 13)]⟩,
    ⟨some 15, none, .mv (.tmp 1)⟩,
    ⟨some 16, none, .bin .eql (.tmp 14) (.tmp 15)⟩] [] [0, 16])
  (.cond (.tmp 16)
  (.seq
  (.reg [⟨some 17, none, .mv (.tmp 0)⟩,
    ⟨some 18, none, .call 76 .pure [(.tmp 17)]⟩,
    ⟨some 4, none, .mv (.tmp 18)⟩] [] [4])
  (.ret))
  (.skip)))
  (.seq
  (.reg [⟨some 4, none, .mv (.val (.int .i64 (-1)))⟩] [] [4])
  (.ret)))))⟩
theorem pf110_ok : fnOk Try.prog 110 pf110 = true := by kernel_rfl

/-- hinterland/rail.there -/
def pf111 : PFn := ⟨33, 2, [.tmp 4], .seq
  (.reg [⟨some 2, none, .boxp 25 (.tmp 0)⟩,
    ⟨some 3, none, .boxp 48 (.tmp 1)⟩,
    ⟨some 4, none, .mv (.val (.int .i64 0))⟩] [] [2, 3])
  (.seq
  (.seq
  (.reg [⟨some 8, none, .ld (some 3) (.tmp 3)⟩,
    ⟨some 9, none, .call 118 .pure [(.tmp 8)]⟩,
    ⟨some 7, none, .mv (.tmp 9)⟩,
    ⟨some 10, none, .ext 0 (.tmp 7)⟩,
    ⟨some 11, none, .ext 1 (.tmp 7)⟩,
    ⟨some 5, none, .zer 48 (.agg [(.int .i64 0), (.int .i64 0), (.int .i64 0)])⟩,
    ⟨none, none, .st 3 (.tmp 5) (.tmp 10)⟩,
    ⟨some 6, none, .mv (.tmp 11)⟩] [] [2, 3, 6])
  (.seq
  (.reg [⟨some 12, none, .mv (.tmp 6)⟩,
    ⟨some 13, none, .bin .neq (.tmp 12) (.val (.int .i64 0))⟩] [] [2, 3, 6, 13])
  (.cond (.tmp 13)
  (.seq
  (.reg [⟨some 14, none, .mv (.tmp 6)⟩,
    ⟨some 4, none, .mv (.tmp 14)⟩] [] [4])
  (.ret))
  (.skip))))
  (.seq
  (.seq
  (.reg [⟨some 15, none, .ld (some 4) (.tmp 2)⟩,
    ⟨some 16, none, .faddr 0 (.tmp 3)⟩,
    ⟨some 17, none, .ld none (.tmp 16)⟩,
    ⟨some 18, none, .call 99 .pure [(.tmp 15), (.tmp 17)]⟩,
    ⟨some 19, none, .un .not (.tmp 18)⟩,
    ⟨some 20, none, .mv (.tmp 19)⟩,
    ⟨some 21, (some (20, false)), .faddr 2 (.tmp 2)⟩,
    ⟨some 22, (some (20, false)), .ld none (.tmp 21)⟩,
    ⟨some 23, (some (20, false)), .faddr 0 (.tmp 3)⟩,
    ⟨some 24, (some (20, false)), .ld none (.tmp 23)⟩,
    ⟨some 25, (some (20, false)), .iaS 1 (.tmp 22) (.tmp 24)⟩,
    ⟨some 26, (some (20, false)), .ld none (.tmp 25)⟩,
    ⟨some 27, (some (20, false)), .faddr 1 (.tmp 3)⟩,
    ⟨some 28, (some (20, false)), .ld none (.tmp 27)⟩,
    ⟨some 29, (some (20, false)), .bin .shr (.tmp 26) (.tmp 28)⟩,
    ⟨some 30, (some (20, false)), .bin .and (.tmp 29) (.val (.int .i64 1))⟩,
    ⟨some 31, (some (20, false)), .bin .eql (.tmp 30) (.val (.int .i64 0))⟩,
    ⟨some 32, none, .pick (.tmp 20) (.val (.bool true)) (.tmp 31)⟩] [] [32])
  (.cond (.tmp 32)
  (.seq
  (.reg [⟨some 4, none, .mv (.val (.int .i64 2))⟩] [] [4])
  (.ret))
  (.skip)))
  (.seq
  (.reg [⟨some 4, none, .mv (.val (.int .i64 0))⟩] [] [4])
  (.ret))))⟩
theorem pf111_ok : fnOk Try.prog 111 pf111 = true := by kernel_rfl

/-- hinterland/rail.beside -/
def pf112 : PFn := ⟨54, 4, [.tmp 8, .tmp 9], .seq
  (.reg [⟨some 8, none, .mv (.val (.int .i64 0))⟩,
    ⟨some 9, none, .mv (.val (.bool false))⟩] [] [0, 1, 2, 3])
  (.seq
  (.reg [⟨some 12, none, .mv (.tmp 2)⟩,
    ⟨some 13, none, .mv (.tmp 0)⟩,
    ⟨some 14, none, .bin .rem (.tmp 12) (.tmp 13)⟩,
    ⟨some 15, none, .mv (.tmp 2)⟩,
    ⟨some 16, none, .mv (.tmp 0)⟩,
    ⟨some 17, none, .bin .quo (.tmp 15) (.tmp 16)⟩,
    ⟨some 10, none, .mv (.tmp 14)⟩,
    ⟨some 11, none, .mv (.tmp 17)⟩] [] [0, 1, 3, 10, 11])
  (.seq
  (.seq
  (.reg [⟨some 18, none, .mv (.tmp 3)⟩] [] [0, 1, 3, 10, 11, 18])
  (.blk 0 (.seq
  (.seq
  (.reg [⟨some 20, none, .bin .eql (.tmp 18) (.val (.int .i64 0))⟩,
    ⟨some 19, none, .mv (.tmp 20)⟩] [] [0, 1, 3, 10, 11, 18, 19])
  (.cond (.tmp 19)
  (.skip)
  (.reg [⟨some 21, none, .bin .eql (.tmp 18) (.val (.int .i64 2))⟩,
    ⟨some 19, none, .mv (.tmp 21)⟩] [] [0, 1, 3, 10, 11, 18, 19])))
  (.cond (.tmp 19)
  (.reg [⟨some 22, none, .mv (.tmp 10)⟩,
    ⟨some 23, none, .mv (.tmp 3)⟩,
    ⟨some 24, none, .bin .sub (.val (.int .i64 1)) (.tmp 23)⟩,
    ⟨some 25, none, .bin .add (.tmp 22) (.tmp 24)⟩,
    ⟨some 10, none, .mv (.tmp 25)⟩] [] [0, 1, 10, 11])
  (.seq
  (.seq
  (.reg [⟨some 27, none, .bin .eql (.tmp 18) (.val (.int .i64 1))⟩,
    ⟨some 26, none, .mv (.tmp 27)⟩] [] [0, 1, 3, 10, 11, 18, 26])
  (.cond (.tmp 26)
  (.skip)
  (.reg [⟨some 28, none, .bin .eql (.tmp 18) (.val (.int .i64 3))⟩,
    ⟨some 26, none, .mv (.tmp 28)⟩] [] [0, 1, 3, 10, 11, 26])))
  (.cond (.tmp 26)
  (.reg [⟨some 29, none, .mv (.tmp 11)⟩,
    ⟨some 30, none, .mv (.tmp 3)⟩,
    ⟨some 31, none, .bin .sub (.val (.int .i64 2)) (.tmp 30)⟩,
    ⟨some 32, none, .bin .add (.tmp 29) (.tmp 31)⟩,
    ⟨some 11, none, .mv (.tmp 32)⟩] [] [0, 1, 10, 11])
  (.skip)))))))
  (.seq
  (.reg [⟨some 33, none, .mv (.tmp 11)⟩,
    ⟨some 34, none, .mv (.tmp 0)⟩,
    ⟨some 35, none, .bin .mul (.tmp 33) (.tmp 34)⟩,
    ⟨some 36, none, .mv (.tmp 10)⟩,
    ⟨some 37, none, .bin .add (.tmp 35) (.tmp 36)⟩,
    ⟨some 38, none, .mv (.tmp 10)⟩,
    ⟨some 39, none, .bin .geq (.tmp 38) (.val (.int .i64 0))⟩,
    ⟨some 40, none, .mv (.tmp 39)⟩,
    ⟨some 41, (some (40, true)), .mv (.tmp 10)⟩,
    ⟨some 42, (some (40, true)), .mv (.tmp 0)⟩,
    ⟨some 43, (some (40, true)), .bin .lss (.tmp 41) (.tmp 42)⟩,
    ⟨some 44, none, .pick (.tmp 40) (.tmp 43) (.val (.bool false))⟩,
    ⟨some 45, none, .mv (.tmp 44)⟩,
    ⟨some 46, (some (45, true)), .mv (.tmp 11)⟩,
    ⟨some 47, (some (45, true)), .bin .geq (.tmp 46) (.val (.int .i64 0))⟩,
    ⟨some 48, none, .pick (.tmp 45) (.tmp 47) (.val (.bool false))⟩,
    ⟨some 49, none, .mv (.tmp 48)⟩,
    ⟨some 50, (some (49, true)), .mv (.tmp 11)⟩,
    ⟨some 51, (some (49, true)), .mv (.tmp 1)⟩,
    ⟨some 52, (some (49, true)), .bin .lss (.tmp 50) (.tmp 51)⟩,
    ⟨some 53, none, .pick (.tmp 49) (.tmp 52) (.val (.bool false))⟩,
    ⟨some 8, none, .mv (.tmp 37)⟩,
    ⟨some 9, none, .mv (.tmp 53)⟩] [] [8, 9])
  (.ret))))⟩
theorem pf112_ok : fnOk Try.prog 112 pf112 = true := by kernel_rfl

/-- hinterland/rail.other -/
def pf113 : PFn := ⟨28, 2, [.tmp 4, .tmp 5], .seq
  (.reg [⟨some 4, none, .mv (.val (.int .i64 0))⟩,
    ⟨some 5, none, .mv (.val (.bool false))⟩] [] [0, 1])
  (.seq
  (.reg [⟨some 10, none, .mv (.tmp 0)⟩,
    ⟨some 11, none, .call 85 .pure [(.tmp 10)]⟩,
    ⟨some 9, none, .mv (.tmp 11)⟩,
    ⟨some 12, none, .ext 0 (.tmp 9)⟩,
    ⟨some 13, none, .ext 1 (.tmp 9)⟩,
    ⟨some 14, none, .ext 2 (.tmp 9)⟩,
    ⟨some 6, none, .mv (.tmp 12)⟩,
    ⟨some 7, none, .mv (.tmp 13)⟩,
    ⟨some 8, none, .mv (.tmp 14)⟩] [] [1, 6, 7, 8])
  (.seq
  (.blk 0 (.seq
  (.reg [⟨some 16, none, .mv (.tmp 8)⟩,
    ⟨some 17, none, .bin .neq (.tmp 16) (.val (.int .i64 0))⟩,
    ⟨some 15, none, .mv (.tmp 17)⟩] [] [1, 6, 7, 15])
  (.cond (.tmp 15)
  (.seq
  (.reg [⟨some 4, none, .mv (.val (.int .i64 0))⟩,
    ⟨some 5, none, .mv (.val (.bool false))⟩] [] [4, 5])
  (.ret))
  (.seq
  (.reg [⟨some 19, none, .mv (.tmp 1)⟩,
    ⟨some 20, none, .mv (.tmp 6)⟩,
    ⟨some 21, none, .bin .eql (.tmp 19) (.tmp 20)⟩,
    ⟨some 18, none, .mv (.tmp 21)⟩] [] [1, 6, 7, 18])
  (.cond (.tmp 18)
  (.seq
  (.reg [⟨some 22, none, .mv (.tmp 7)⟩,
    ⟨some 4, none, .mv (.tmp 22)⟩,
    ⟨some 5, none, .mv (.val (.bool true))⟩] [] [4, 5])
  (.ret))
  (.seq
  (.reg [⟨some 24, none, .mv (.tmp 1)⟩,
    ⟨some 25, none, .mv (.tmp 7)⟩,
    ⟨some 26, none, .bin .eql (.tmp 24) (.tmp 25)⟩,
    ⟨some 23, none, .mv (.tmp 26)⟩] [] [6, 23])
  (.cond (.tmp 23)
  (.seq
  (.reg [⟨some 27, none, .mv (.tmp 6)⟩,
    ⟨some 4, none, .mv (.tmp 27)⟩,
    ⟨some 5, none, .mv (.val (.bool true))⟩] [] [4, 5])
  (.ret))
  (.skip))))))))
  (.seq
  (.reg [⟨some 4, none, .mv (.val (.int .i64 0))⟩,
    ⟨some 5, none, .mv (.val (.bool false))⟩] [] [4, 5])
  (.ret))))⟩
theorem pf113_ok : fnOk Try.prog 113 pf113 = true := by kernel_rfl

/-- slices.rotateLeft[hinterland/api.Signal] -/
def pf114 : PFn := ⟨14, 2, [], .seq
  (.reg [⟨some 4, none, .mv (.tmp 0)⟩,
    ⟨some 5, none, .mv (.tmp 1)⟩,
    ⟨some 6, none, .slc 4 (.tmp 4) none (some (.tmp 5)) none⟩,
    ⟨some 7, none, .call 119 .pure [(.tmp 6)]⟩] [] [0, 1])
  (.seq
  (.reg [⟨some 8, none, .mv (.tmp 0)⟩,
    ⟨some 9, none, .mv (.tmp 1)⟩,
    ⟨some 10, none, .slc 4 (.tmp 8) (some (.tmp 9)) none none⟩,
    ⟨some 11, none, .call 119 .pure [(.tmp 10)]⟩] [] [0])
  (.reg [⟨some 12, none, .mv (.tmp 0)⟩,
    ⟨some 13, none, .call 119 .pure [(.tmp 12)]⟩] [] []))⟩
theorem pf114_ok : fnOk Try.prog 114 pf114 = true := by kernel_rfl

/-- slices.pdqsortOrdered[int] -/
def pf115 : PFn := ⟨134, 4, [], .seq
  (.reg [⟨some 8, none, .mv (.val (.bool true))⟩] [] [0, 1, 2, 3, 8])
  (.seq
  (.reg [⟨some 9, none, .mv (.val (.bool true))⟩] [] [0, 1, 2, 3, 8, 9])
  (.blk 0 (.loop (.blk 1 (.seq
  (.reg [⟨some 19, none, .mv (.tmp 2)⟩,
    ⟨some 20, none, .mv (.tmp 1)⟩,
    ⟨some 21, none, .bin .sub (.tmp 19) (.tmp 20)⟩,
    ⟨some 10, none, .mv (.tmp 21)⟩] [] [0, 1, 2, 3, 8, 9, 10])
  (.seq
  (.seq
  (.reg [⟨some 22, none, .mv (.tmp 10)⟩,
    ⟨some 23, none, .bin .leq (.tmp 22) (.val (.int .i64 12))⟩] [] [0, 1, 2, 3, 8, 9, 10, 23])
  (.cond (.tmp 23)
  (.seq
  (.reg [⟨some 24, none, .mv (.tmp 0)⟩,
    ⟨some 25, none, .mv (.tmp 1)⟩,
    ⟨some 26, none, .mv (.tmp 2)⟩,
    ⟨some 27, none, .call 120 .opn [(.tmp 24), (.tmp 25), (.tmp 26)]⟩] [] [])
  (.ret))
  (.skip)))
  (.seq
  (.seq
  (.reg [⟨some 28, none, .mv (.tmp 3)⟩,
    ⟨some 29, none, .bin .eql (.tmp 28) (.val (.int .i64 0))⟩] [] [0, 1, 2, 3, 8, 9, 10, 29])
  (.cond (.tmp 29)
  (.seq
  (.reg [⟨some 30, none, .mv (.tmp 0)⟩,
    ⟨some 31, none, .mv (.tmp 1)⟩,
    ⟨some 32, none, .mv (.tmp 2)⟩,
    ⟨some 33, none, .call 121 .pure [(.tmp 30), (.tmp 31), (.tmp 32)]⟩] [] [])
  (.ret))
  (.skip)))
  (.seq
  (.seq
  (.reg [⟨some 34, none, .mv (.tmp 8)⟩,
    ⟨some 35, none, .un .not (.tmp 34)⟩] [] [0, 1, 2, 3, 8, 9, 10, 35])
  (.cond (.tmp 35)
  (.seq
  (.reg [⟨some 36, none, .mv (.tmp 0)⟩,
    ⟨some 37, none, .mv (.tmp 1)⟩,
    ⟨some 38, none, .mv (.tmp 2)⟩,
    ⟨some 39, none, .call 122 .pure [(.tmp 36), (.tmp 37), (.tmp 38)]⟩] [] [0, 1, 2, 3, 8, 9, 10])
  (.reg [⟨some 40, none, .mv (.tmp 3)⟩,
    ⟨some 41, none, .bin .sub (.tmp 40) (.val (.int .i64 1))⟩,
    ⟨some 3, none, .mv (.tmp 41)⟩] [] [0, 1, 2, 3, 8, 9, 10]))
  (.skip)))
  (.seq
  (.reg [⟨some 43, none, .mv (.tmp 0)⟩,
    ⟨some 44, none, .mv (.tmp 1)⟩,
    ⟨some 45, none, .mv (.tmp 2)⟩,
    ⟨some 46, none, .call 123 .pure [(.tmp 43), (.tmp 44), (.tmp 45)]⟩,
    ⟨some 42, none, .mv (.tmp 46)⟩,
    ⟨some 47, none, .ext 0 (.tmp 42)⟩,
    ⟨some 48, none, .ext 1 (.tmp 42)⟩,
    ⟨some 11, none, .mv (.tmp 47)⟩,
    ⟨some 12, none, .mv (.tmp 48)⟩] [] [0, 1, 2, 3, 8, 9, 10, 11, 12])
  (.seq
  (.seq
  (.reg [⟨some 49, none, .mv (.tmp 12)⟩,
    ⟨some 50, none, .bin .eql (.tmp 49) (.val (.int .i64 2))⟩] [] [0, 1, 2, 3, 8, 9, 10, 11, 12, 50])
  (.cond (.tmp 50)
  (.seq
  (.reg [⟨some 51, none, .mv (.tmp 0)⟩,
    ⟨some 52, none, .mv (.tmp 1)⟩,
    ⟨some 53, none, .mv (.tmp 2)⟩,
    ⟨some 54, none, .call 124 .pure [(.tmp 51), (.tmp 52), (.tmp 53)]⟩] [] [0, 1, 2, 3, 8, 9, 10, 11])
  (.seq
  (.reg [⟨some 55, none, .mv (.tmp 2)⟩,
    ⟨some 56, none, .bin .sub (.tmp 55) (.val (.int .i64 1))⟩,
    ⟨some 57, none, .mv (.tmp 11)⟩,
    ⟨some 58, none, .mv (.tmp 1)⟩,
    ⟨some 59, none, .bin .sub (.tmp 57) (.tmp 58)⟩,
    ⟨some 60, none, .bin .sub (.tmp 56) (.tmp 59)⟩,
    ⟨some 11, none, .mv (.tmp 60)⟩] [] [0, 1, 2, 3, 8, 9, 10, 11])
  (.reg [⟨some 12, none, .mv (.val (.int .i64 1))⟩] [] [0, 1, 2, 3, 8, 9, 10, 11, 12])))
  (.skip)))
  (.seq
  (.seq
  (.reg [⟨some 61, none, .mv (.tmp 8)⟩,
    ⟨some 62, none, .mv (.tmp 61)⟩,
    ⟨some 63, (some (62, true)), .mv (.tmp 9)⟩,
    ⟨some 64, none, .pick (.tmp 62) (.tmp 63) (.val (.bool false))⟩,
    ⟨some 65, none, .mv (.tmp 64)⟩,
    ⟨some 66, (some (65, true)), .mv (.tmp 12)⟩,
    ⟨some 67, (some (65, true)), .bin .eql (.tmp 66) (.val (.int .i64 1))⟩,
    ⟨some 68, none, .pick (.tmp 65) (.tmp 67) (.val (.bool false))⟩] [] [0, 1, 2, 3, 8, 9, 10, 11, 68])
  (.cond (.tmp 68)
  (.seq
  (.reg [⟨some 69, none, .mv (.tmp 0)⟩,
    ⟨some 70, none, .mv (.tmp 1)⟩,
    ⟨some 71, none, .mv (.tmp 2)⟩,
    ⟨some 72, none, .call 125 .pure [(.tmp 69), (.tmp 70), (.tmp 71)]⟩] [] [0, 1, 2, 3, 8, 9, 10, 11, 72])
  (.cond (.tmp 72)
  (.ret)
  (.skip)))
  (.skip)))
  (.seq
  (.seq
  (.reg [⟨some 73, none, .mv (.tmp 1)⟩,
    ⟨some 74, none, .bin .gtr (.tmp 73) (.val (.int .i64 0))⟩,
    ⟨some 75, none, .mv (.tmp 74)⟩,
    ⟨some 76, (some (75, true)), .mv (.tmp 0)⟩,
    ⟨some 77, (some (75, true)), .mv (.tmp 1)⟩,
    ⟨some 78, (some (75, true)), .bin .sub (.tmp 77) (.val (.int .i64 1))⟩,
    ⟨some 79, (some (75, true)), .iaS 1 (.tmp 76) (.tmp 78)⟩,
    ⟨some 80, (some (75, true)), .ld none (.tmp 79)⟩,
    ⟨some 81, (some (75, true)), .mv (.tmp 0)⟩,
    ⟨some 82, (some (75, true)), .mv (.tmp 11)⟩,
    ⟨some 83, (some (75, true)), .iaS 1 (.tmp 81) (.tmp 82)⟩,
    ⟨some 84, (some (75, true)), .ld none (.tmp 83)⟩,
    ⟨some 85, (some (75, true)), .call 126 .pure [(.tmp 80), (.tmp 84)]⟩,
    ⟨some 86, (some (75, true)), .un .not (.tmp 85)⟩,
    ⟨some 87, none, .pick (.tmp 75) (.tmp 86) (.val (.bool false))⟩] [] [0, 1, 2, 3, 8, 9, 10, 11, 87])
  (.cond (.tmp 87)
  (.seq
  (.reg [⟨some 88, none, .mv (.tmp 0)⟩,
    ⟨some 89, none, .mv (.tmp 1)⟩,
    ⟨some 90, none, .mv (.tmp 2)⟩,
    ⟨some 91, none, .mv (.tmp 11)⟩,
    ⟨some 92, none, .call 127 .pure [(.tmp 88), (.tmp 89), (.tmp 90), (.tmp 91)]⟩,
    ⟨some 13, none, .mv (.tmp 92)⟩] [] [0, 2, 3, 8, 9, 13])
  (.seq
  (.reg [⟨some 93, none, .mv (.tmp 13)⟩,
    ⟨some 1, none, .mv (.tmp 93)⟩] [] [0, 1, 2, 3, 8, 9])
  (.ext 1)))
  (.skip)))
  (.seq
  (.reg [⟨some 95, none, .mv (.tmp 0)⟩,
    ⟨some 96, none, .mv (.tmp 1)⟩,
    ⟨some 97, none, .mv (.tmp 2)⟩,
    ⟨some 98, none, .mv (.tmp 11)⟩,
    ⟨some 99, none, .call 128 .pure [(.tmp 95), (.tmp 96), (.tmp 97), (.tmp 98)]⟩,
    ⟨some 94, none, .mv (.tmp 99)⟩,
    ⟨some 100, none, .ext 0 (.tmp 94)⟩,
    ⟨some 101, none, .ext 1 (.tmp 94)⟩,
    ⟨some 14, none, .mv (.tmp 100)⟩,
    ⟨some 15, none, .mv (.tmp 101)⟩] [] [0, 1, 2, 3, 10, 14, 15])
  (.seq
  (.reg [⟨some 102, none, .mv (.tmp 15)⟩,
    ⟨some 9, none, .mv (.tmp 102)⟩] [] [0, 1, 2, 3, 9, 10, 14])
  (.seq
  (.reg [⟨some 103, none, .mv (.tmp 14)⟩,
    ⟨some 104, none, .mv (.tmp 1)⟩,
    ⟨some 105, none, .bin .sub (.tmp 103) (.tmp 104)⟩,
    ⟨some 106, none, .mv (.tmp 2)⟩,
    ⟨some 107, none, .mv (.tmp 14)⟩,
    ⟨some 108, none, .bin .sub (.tmp 106) (.tmp 107)⟩,
    ⟨some 16, none, .mv (.tmp 105)⟩,
    ⟨some 17, none, .mv (.tmp 108)⟩] [] [0, 1, 2, 3, 9, 10, 14, 16, 17])
  (.seq
  (.reg [⟨some 109, none, .mv (.tmp 10)⟩,
    ⟨some 110, none, .bin .quo (.tmp 109) (.val (.int .i64 8))⟩,
    ⟨some 18, none, .mv (.tmp 110)⟩] [] [0, 1, 2, 3, 9, 14, 16, 17, 18])
  (.seq
  (.reg [⟨some 111, none, .mv (.tmp 16)⟩,
    ⟨some 112, none, .mv (.tmp 17)⟩,
    ⟨some 113, none, .bin .lss (.tmp 111) (.tmp 112)⟩] [] [0, 1, 2, 3, 9, 14, 16, 17, 18, 113])
  (.cond (.tmp 113)
  (.seq
  (.reg [⟨some 114, none, .mv (.tmp 16)⟩,
    ⟨some 115, none, .mv (.tmp 18)⟩,
    ⟨some 116, none, .bin .geq (.tmp 114) (.tmp 115)⟩,
    ⟨some 8, none, .mv (.tmp 116)⟩] [] [0, 1, 2, 3, 8, 9, 14])
  (.seq
  (.reg [⟨some 117, none, .mv (.tmp 0)⟩,
    ⟨some 118, none, .mv (.tmp 1)⟩,
    ⟨some 119, none, .mv (.tmp 14)⟩,
    ⟨some 120, none, .mv (.tmp 3)⟩,
    ⟨some 121, none, .call 115 .opn [(.tmp 117), (.tmp 118), (.tmp 119), (.tmp 120)]⟩] [] [0, 2, 3, 8, 9, 14])
  (.reg [⟨some 122, none, .mv (.tmp 14)⟩,
    ⟨some 123, none, .bin .add (.tmp 122) (.val (.int .i64 1))⟩,
    ⟨some 1, none, .mv (.tmp 123)⟩] [] [0, 1, 2, 3, 8, 9])))
  (.seq
  (.reg [⟨some 124, none, .mv (.tmp 17)⟩,
    ⟨some 125, none, .mv (.tmp 18)⟩,
    ⟨some 126, none, .bin .geq (.tmp 124) (.tmp 125)⟩,
    ⟨some 8, none, .mv (.tmp 126)⟩] [] [0, 1, 2, 3, 8, 9, 14])
  (.seq
  (.reg [⟨some 127, none, .mv (.tmp 0)⟩,
    ⟨some 128, none, .mv (.tmp 14)⟩,
    ⟨some 129, none, .bin .add (.tmp 128) (.val (.int .i64 1))⟩,
    ⟨some 130, none, .mv (.tmp 2)⟩,
    ⟨some 131, none, .mv (.tmp 3)⟩,
    ⟨some 132, none, .call 115 .opn [(.tmp 127), (.tmp 129), (.tmp 130), (.tmp 131)]⟩] [] [0, 1, 3, 8, 9, 14])
  (.reg [⟨some 133, none, .mv (.tmp 14)⟩,
    ⟨some 2, none, .mv (.tmp 133)⟩] [] [0, 1, 2, 3, 8, 9])))))))))))))))))))))⟩
theorem pf115_ok : fnOk Try.prog 115 pf115 = true := by kernel_rfl

/-- math/bits.Len -/
def pf116 : PFn := ⟨8, 1, [.tmp 2], .seq
  (.reg [⟨some 2, none, .mv (.val (.int .i64 0))⟩] [] [0])
  (.seq
  (.cond (.val (.bool false))
  (.seq
  (.reg [⟨some 3, none, .mv (.tmp 0)⟩,
    ⟨some 4, none, .conv .u32 (.tmp 3)⟩,
    ⟨some 5, none, .call 129 .pure [(.tmp 4)]⟩,
    ⟨some 2, none, .mv (.tmp 5)⟩] [] [2])
  (.ret))
  (.skip))
  (.seq
  (.reg [⟨some 6, none, .mv (.tmp 0)⟩,
    ⟨some 7, none, .call 130 .pure [(.tmp 6)]⟩,
    ⟨some 2, none, .mv (.tmp 7)⟩] [] [2])
  (.ret)))⟩
theorem pf116_ok : fnOk Try.prog 116 pf116 = true := by kernel_rfl

/-- slices.Index[[]int,int] -/
def pf117 : PFn := ⟨19, 2, [.tmp 4], .seq
  (.reg [⟨some 4, none, .mv (.val (.int .i64 0))⟩] [] [0, 1])
  (.seq
  (.seq
  (.reg [⟨some 6, none, .mv (.tmp 0)⟩,
    ⟨some 7, none, .len (.tmp 6)⟩,
    ⟨some 8, none, .mv (.val (.int .i64 0))⟩] [] [0, 1, 7, 8])
  (.blk 0 (.loop (.seq
  (.reg [⟨some 9, none, .bin .lss (.tmp 8) (.tmp 7)⟩] [] [0, 1, 7, 8, 9])
  (.seq
  (.cond (.tmp 9)
  (.skip)
  (.ext 0))
  (.seq
  (.blk 1 (.seq
  (.reg [⟨some 10, none, .mv (.tmp 8)⟩,
    ⟨some 5, none, .mv (.tmp 10)⟩] [] [0, 1, 5, 7, 8])
  (.seq
  (.reg [⟨some 11, none, .mv (.tmp 1)⟩,
    ⟨some 12, none, .mv (.tmp 0)⟩,
    ⟨some 13, none, .mv (.tmp 5)⟩,
    ⟨some 14, none, .iaS 1 (.tmp 12) (.tmp 13)⟩,
    ⟨some 15, none, .ld none (.tmp 14)⟩,
    ⟨some 16, none, .bin .eql (.tmp 11) (.tmp 15)⟩] [] [0, 1, 5, 7, 8, 16])
  (.cond (.tmp 16)
  (.seq
  (.reg [⟨some 17, none, .mv (.tmp 5)⟩,
    ⟨some 4, none, .mv (.tmp 17)⟩] [] [4])
  (.ret))
  (.skip)))))
  (.reg [⟨some 18, none, .bin .add (.tmp 8) (.val (.int .i64 1))⟩,
    ⟨some 8, none, .mv (.tmp 18)⟩] [] [0, 1, 7, 8])))))))
  (.seq
  (.reg [⟨some 4, none, .mv (.val (.int .i64 (-1)))⟩] [] [4])
  (.ret)))⟩
theorem pf117_ok : fnOk Try.prog 117 pf117 = true := by kernel_rfl

/-- hinterland/rail.Back -/
def pf118 : PFn := ⟨20, 1, [.cell 2 (some 3), .tmp 3], .seq
  (.reg [⟨some 1, none, .boxm 48 (.tmp 0)⟩,
    ⟨some 2, none, .zer 48 (.agg [(.int .i64 0), (.int .i64 0), (.int .i64 0)])⟩,
    ⟨some 3, none, .mv (.val (.int .i64 0))⟩] [] [1, 2])
  (.seq
  (.reg [⟨some 7, none, .faddr 1 (.tmp 1)⟩,
    ⟨some 8, none, .ld none (.tmp 7)⟩,
    ⟨some 9, none, .faddr 2 (.tmp 1)⟩,
    ⟨some 10, none, .ld none (.tmp 9)⟩,
    ⟨some 11, none, .call 113 .pure [(.tmp 8), (.tmp 10)]⟩,
    ⟨some 6, none, .mv (.tmp 11)⟩,
    ⟨some 12, none, .ext 0 (.tmp 6)⟩,
    ⟨some 13, none, .ext 1 (.tmp 6)⟩,
    ⟨some 4, none, .mv (.tmp 12)⟩,
    ⟨some 5, none, .mv (.tmp 13)⟩] [] [1, 2, 4, 5])
  (.seq
  (.seq
  (.reg [⟨some 14, none, .mv (.tmp 5)⟩,
    ⟨some 15, none, .un .not (.tmp 14)⟩] [] [1, 2, 4, 15])
  (.cond (.tmp 15)
  (.seq
  (.reg [⟨some 16, none, .bld [(.int .i64 0), (.int .i64 0), (.int .i64 0)] []⟩,
    ⟨none, none, .st 3 (.tmp 2) (.tmp 16)⟩,
    ⟨some 3, none, .mv (.val (.int .i64 1))⟩] [] [2, 3])
  (.ret))
  (.skip)))
  (.seq
  (.reg [⟨some 17, none, .mv (.tmp 4)⟩,
    ⟨some 18, none, .faddr 2 (.tmp 1)⟩,
    ⟨none, none, .st 1 (.tmp 18) (.tmp 17)⟩] [] [1, 2])
  (.seq
  (.reg [⟨some 19, none, .ld (some 3) (.tmp 1)⟩,
    ⟨none, none, .st 3 (.tmp 2) (.tmp 19)⟩,
    ⟨some 3, none, .mv (.val (.int .i64 0))⟩] [] [2, 3])
  (.ret)))))⟩
theorem pf118_ok : fnOk Try.prog 118 pf118 = true := by kernel_rfl

/-- slices.insertionSortOrdered[int] -/
def pf120 : PFn := ⟨49, 3, [], .seq
  (.reg [⟨some 8, none, .mv (.tmp 1)⟩,
    ⟨some 9, none, .bin .add (.tmp 8) (.val (.int .i64 1))⟩,
    ⟨some 6, none, .mv (.tmp 9)⟩] [] [0, 1, 2, 6])
  (.blk 0 (.loop (.seq
  (.seq
  (.reg [⟨some 10, none, .mv (.tmp 6)⟩,
    ⟨some 11, none, .mv (.tmp 2)⟩,
    ⟨some 12, none, .bin .lss (.tmp 10) (.tmp 11)⟩] [] [0, 1, 2, 6, 12])
  (.cond (.tmp 12)
  (.skip)
  (.ext 0)))
  (.seq
  (.blk 1 (.seq
  (.reg [⟨some 15, none, .mv (.tmp 6)⟩,
    ⟨some 7, none, .mv (.tmp 15)⟩] [] [0, 1, 2, 6, 7])
  (.blk 2 (.loop (.seq
  (.seq
  (.reg [⟨some 16, none, .mv (.tmp 7)⟩,
    ⟨some 17, none, .mv (.tmp 1)⟩,
    ⟨some 18, none, .bin .gtr (.tmp 16) (.tmp 17)⟩,
    ⟨some 19, none, .mv (.tmp 18)⟩,
    ⟨some 20, (some (19, true)), .mv (.tmp 0)⟩,
    ⟨some 21, (some (19, true)), .mv (.tmp 7)⟩,
    ⟨some 22, (some (19, true)), .iaS 1 (.tmp 20) (.tmp 21)⟩,
    ⟨some 23, (some (19, true)), .ld none (.tmp 22)⟩,
    ⟨some 24, (some (19, true)), .mv (.tmp 0)⟩,
    ⟨some 25, (some (19, true)), .mv (.tmp 7)⟩,
    ⟨some 26, (some (19, true)), .bin .sub (.tmp 25) (.val (.int .i64 1))⟩,
    ⟨some 27, (some (19, true)), .iaS 1 (.tmp 24) (.tmp 26)⟩,
    ⟨some 28, (some (19, true)), .ld none (.tmp 27)⟩,
    ⟨some 29, (some (19, true)), .call 126 .pure [(.tmp 23), (.tmp 28)]⟩,
    ⟨some 30, none, .pick (.tmp 19) (.tmp 29) (.val (.bool false))⟩] [] [0, 1, 2, 6, 7, 30])
  (.cond (.tmp 30)
  (.skip)
  (.ext 2)))
  (.seq
  (.blk 3 (.reg [⟨some 33, none, .mv (.tmp 0)⟩,
    ⟨some 34, none, .mv (.tmp 7)⟩,
    ⟨some 35, none, .mv (.tmp 0)⟩,
    ⟨some 36, none, .mv (.tmp 7)⟩,
    ⟨some 37, none, .bin .sub (.tmp 36) (.val (.int .i64 1))⟩,
    ⟨some 38, none, .mv (.tmp 0)⟩,
    ⟨some 39, none, .mv (.tmp 7)⟩,
    ⟨some 40, none, .bin .sub (.tmp 39) (.val (.int .i64 1))⟩,
    ⟨some 41, none, .iaS 1 (.tmp 38) (.tmp 40)⟩,
    ⟨some 42, none, .ld none (.tmp 41)⟩,
    ⟨some 43, none, .mv (.tmp 0)⟩,
    ⟨some 44, none, .mv (.tmp 7)⟩,
    ⟨some 45, none, .iaS 1 (.tmp 43) (.tmp 44)⟩,
    ⟨some 46, none, .ld none (.tmp 45)⟩,
    ⟨some 47, none, .iaS 1 (.tmp 33) (.tmp 34)⟩,
    ⟨none, none, .st 1 (.tmp 47) (.tmp 42)⟩,
    ⟨some 48, none, .iaS 1 (.tmp 35) (.tmp 37)⟩,
    ⟨none, none, .st 1 (.tmp 48) (.tmp 46)⟩] [] [0, 1, 2, 6, 7]))
  (.reg [⟨some 31, none, .mv (.tmp 7)⟩,
    ⟨some 32, none, .bin .sub (.tmp 31) (.val (.int .i64 1))⟩,
    ⟨some 7, none, .mv (.tmp 32)⟩] [] [0, 1, 2, 6, 7])))))))
  (.reg [⟨some 13, none, .mv (.tmp 6)⟩,
    ⟨some 14, none, .bin .add (.tmp 13) (.val (.int .i64 1))⟩,
    ⟨some 6, none, .mv (.tmp 14)⟩] [] [0, 1, 2, 6])))))⟩
theorem pf120_ok : fnOk Try.prog 120 pf120 = true := by kernel_rfl

/-- cmp.Less[int] -/
def pf126 : PFn := ⟨17, 2, [.tmp 4], .seq
  (.reg [⟨some 4, none, .mv (.val (.bool false))⟩] [] [0, 1])
  (.seq
  (.reg [⟨some 5, none, .mv (.tmp 0)⟩,
    ⟨some 6, none, .call 106 .pure [(.tmp 5)]⟩,
    ⟨some 7, none, .mv (.tmp 6)⟩,
    ⟨some 8, (some (7, true)), .mv (.tmp 1)⟩,
    ⟨some 9, (some (7, true)), .call 106 .pure [(.tmp 8)]⟩,
    ⟨some 10, (some (7, true)), .un .not (.tmp 9)⟩,
    ⟨some 11, none, .pick (.tmp 7) (.tmp 10) (.val (.bool false))⟩,
    ⟨some 12, none, .mv (.tmp 11)⟩,
    ⟨some 13, (some (12, false)), .mv (.tmp 0)⟩,
    ⟨some 14, (some (12, false)), .mv (.tmp 1)⟩,
    ⟨some 15, (some (12, false)), .bin .lss (.tmp 13) (.tmp 14)⟩,
    ⟨some 16, none, .pick (.tmp 12) (.val (.bool true)) (.tmp 15)⟩,
    ⟨some 4, none, .mv (.tmp 16)⟩] [] [4])
  (.ret))⟩
theorem pf126_ok : fnOk Try.prog 126 pf126 = true := by kernel_rfl

end Go.Proofs.Ytfocelelbcepnaa
