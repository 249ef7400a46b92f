/- Links: Grow's code, with its calls that change what is theirs. -/
import Derived.Test.YtbkhmgcfgfcilaaFlowACode
set_option maxRecDepth 100000
namespace Go.Proofs.Ytbkhmgcfgfcilaa
open Go.Proofs.Ytbkhmgcfgfcilaa.PM

/-- hinterland/flow.Grow -/
def pg16 : PFn := ⟨79, 5, [.tmp 10, .tmp 11], .seq
  (.reg [⟨some 10, none, .mv (.val (.list .nil 1 []))⟩,
    ⟨some 11, none, .mv (.val (.int .i64 0))⟩] [] [0, 1, 2, 3, 4])
  (.seq
  (.seq
  (.reg [⟨some 17, none, .mv (.tmp 0)⟩,
    ⟨some 18, none, .mv (.tmp 1)⟩,
    ⟨some 19, none, .call 17 .pure [(.tmp 17), (.tmp 18)]⟩,
    ⟨some 12, none, .mv (.tmp 19)⟩] [] [0, 1, 2, 3, 4, 12])
  (.seq
  (.reg [⟨some 20, none, .mv (.tmp 12)⟩,
    ⟨some 21, none, .bin .neq (.tmp 20) (.val (.int .i64 0))⟩] [] [0, 1, 2, 3, 4, 12, 21])
  (.cond (.tmp 21)
  (.seq
  (.reg [⟨some 22, none, .mv (.tmp 12)⟩,
    ⟨some 10, none, .mv (.val (.list .nil 1 []))⟩,
    ⟨some 11, none, .mv (.tmp 22)⟩] [] [10, 11])
  (.ret))
  (.skip))))
  (.seq
  (.blk 0 (.seq
  (.reg [⟨some 24, none, .mv (.tmp 2)⟩,
    ⟨some 25, none, .mv (.tmp 0)⟩,
    ⟨some 26, none, .bin .sub (.tmp 25) (.val (.int .i64 1))⟩,
    ⟨some 27, none, .call 19 .pure [(.tmp 24), (.tmp 26)]⟩,
    ⟨some 28, none, .un .not (.tmp 27)⟩,
    ⟨some 29, none, .mv (.tmp 28)⟩,
    ⟨some 30, (some (29, false)), .mv (.tmp 3)⟩,
    ⟨some 31, (some (29, false)), .mv (.tmp 0)⟩,
    ⟨some 32, (some (29, false)), .bin .sub (.tmp 31) (.val (.int .i64 1))⟩,
    ⟨some 33, (some (29, false)), .call 19 .pure [(.tmp 30), (.tmp 32)]⟩,
    ⟨some 34, (some (29, false)), .un .not (.tmp 33)⟩,
    ⟨some 35, none, .pick (.tmp 29) (.val (.bool true)) (.tmp 34)⟩,
    ⟨some 23, none, .mv (.tmp 35)⟩] [] [1, 2, 3, 4, 23])
  (.cond (.tmp 23)
  (.seq
  (.reg [⟨some 10, none, .mv (.val (.list .nil 1 []))⟩,
    ⟨some 11, none, .mv (.val (.int .i64 2))⟩] [] [10, 11])
  (.ret))
  (.seq
  (.reg [⟨some 37, none, .mv (.tmp 4)⟩,
    ⟨some 38, none, .bin .lss (.tmp 37) (.val (.int .i64 1))⟩,
    ⟨some 39, none, .mv (.tmp 38)⟩,
    ⟨some 40, (some (39, false)), .mv (.tmp 4)⟩,
    ⟨some 41, (some (39, false)), .bin .gtr (.tmp 40) (.val (.int .i64 1000000))⟩,
    ⟨some 42, none, .pick (.tmp 39) (.val (.bool true)) (.tmp 41)⟩,
    ⟨some 43, none, .mv (.tmp 42)⟩,
    ⟨some 44, (some (43, false)), .mv (.tmp 2)⟩,
    ⟨some 45, (some (43, false)), .mv (.tmp 3)⟩,
    ⟨some 46, (some (43, false)), .bin .eql (.tmp 44) (.tmp 45)⟩,
    ⟨some 47, none, .pick (.tmp 43) (.val (.bool true)) (.tmp 46)⟩,
    ⟨some 36, none, .mv (.tmp 47)⟩] [] [1, 2, 3, 4, 36])
  (.cond (.tmp 36)
  (.seq
  (.reg [⟨some 10, none, .mv (.val (.list .nil 1 []))⟩,
    ⟨some 11, none, .mv (.val (.int .i64 1))⟩] [] [10, 11])
  (.ret))
  (.skip))))))
  (.seq
  (.reg [⟨some 48, none, .mv (.tmp 2)⟩,
    ⟨some 49, none, .mv (.tmp 3)⟩,
    ⟨some 50, none, .mv (.tmp 4)⟩,
    ⟨some 51, none, .bld [(.int .i64 0), (.int .i64 0), (.int .i64 0)] [(0, 1, (.tmp 48)), (1, 1, (.tmp 49)), (2, 1, (.tmp 50))]⟩,
    ⟨some 13, none, .zer 36 (.agg [(.int .i64 0), (.int .i64 0), (.int .i64 0)])⟩,
    ⟨none, none, .st 3 (.tmp 13) (.tmp 51)⟩] [] [1, 4, 13])
  (.seq
  (.reg [⟨some 52, none, .mv (.tmp 1)⟩,
    ⟨some 53, none, .call 24 .opn [(.tmp 52)]⟩,
    ⟨some 14, none, .mv (.tmp 53)⟩] [] [4, 13, 14])
  (.seq
  (.reg [⟨some 55, none, .mv (.tmp 14)⟩,
    ⟨some 56, none, .ld (some 3) (.tmp 13)⟩,
    ⟨some 57, none, .call 25 .pure [(.tmp 55), (.tmp 56), (.val (.clo (.func 26) [] []))]⟩,
    ⟨some 54, none, .mv (.tmp 57)⟩,
    ⟨some 58, none, .ext 0 (.tmp 54)⟩,
    ⟨some 59, none, .ext 1 (.tmp 54)⟩,
    ⟨some 15, none, .mv (.tmp 58)⟩,
    ⟨some 16, none, .mv (.tmp 59)⟩] [] [4, 13, 14, 15, 16])
  (.seq
  (.seq
  (.reg [⟨some 60, none, .mv (.tmp 16)⟩,
    ⟨some 61, none, .un .not (.tmp 60)⟩] [] [4, 13, 14, 15, 61])
  (.cond (.tmp 61)
  (.seq
  (.reg [⟨some 62, none, .mv (.tmp 14)⟩,
    ⟨some 63, none, .mv (.tmp 15)⟩,
    ⟨some 64, none, .ld (some 3) (.tmp 13)⟩,
    ⟨some 65, none, .bslm 36 1 3 [(.int .i64 0), (.int .i64 0), (.int .i64 0)] [(0, 3, (.tmp 64))]⟩,
    ⟨some 66, none, .call 27 .opn [(.tmp 62), (.tmp 63), (.tmp 65)]⟩,
    ⟨some 10, none, .mv (.tmp 66)⟩,
    ⟨some 11, none, .mv (.val (.int .i64 0))⟩] [] [10, 11])
  (.ret))
  (.skip)))
  (.seq
  (.reg [⟨some 67, none, .mv (.tmp 14)⟩,
    ⟨some 68, none, .mv (.tmp 15)⟩,
    ⟨some 69, none, .mv (.tmp 14)⟩,
    ⟨some 70, none, .mv (.tmp 15)⟩,
    ⟨some 71, none, .iaS 3 (.tmp 69) (.tmp 70)⟩,
    ⟨some 72, none, .faddr 2 (.tmp 71)⟩,
    ⟨some 73, none, .ld none (.tmp 72)⟩,
    ⟨some 74, none, .mv (.tmp 4)⟩,
    ⟨some 75, none, .mx (.tmp 73) [(.tmp 74)]⟩,
    ⟨some 76, none, .iaS 3 (.tmp 67) (.tmp 68)⟩,
    ⟨some 77, none, .faddr 2 (.tmp 76)⟩,
    ⟨none, none, .st 1 (.tmp 77) (.tmp 75)⟩] [] [14])
  (.seq
  (.reg [⟨some 78, none, .mv (.tmp 14)⟩,
    ⟨some 10, none, .mv (.tmp 78)⟩,
    ⟨some 11, none, .mv (.val (.int .i64 0))⟩] [] [10, 11])
  (.ret)))))))))⟩
theorem pg16_ok : fnOk Try.prog 16 pg16 = true := by kernel_rfl
end Go.Proofs.Ytbkhmgcfgfcilaa
