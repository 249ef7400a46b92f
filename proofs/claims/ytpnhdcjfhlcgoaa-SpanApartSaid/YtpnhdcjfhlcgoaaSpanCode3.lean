/- PCode of functions, written by wip/tools/gen.py out of the loaded functions' print. -/
import Derived.Test.YtpnhdcjfhlcgoaaPmTwenty
import Derived.Test.YtpnhdcjfhlcgoaaProg
import Derived.KernelRfl
set_option maxRecDepth 100000
namespace Go.Proofs.Ytpnhdcjfhlcgoaa
open Go.Proofs.Ytpnhdcjfhlcgoaa.PM

/-- hinterland/span.head_1 -/
def pf63 : PFn := ⟨14, 2, [.tmp 3], .seq
  (.reg [⟨some 2, none, .boxp 26 (.tmp 0)⟩,
    ⟨some 3, none, .mv (.val (.bool false))⟩] [] [1, 2])
  (.seq
  (.reg [⟨some 4, none, .faddr 1 (.tmp 2)⟩,
    ⟨some 5, none, .ld none (.tmp 4)⟩,
    ⟨some 6, none, .ld none (.tmp 1)⟩,
    ⟨some 7, none, .bin .eql (.tmp 5) (.tmp 6)⟩,
    ⟨some 8, none, .mv (.tmp 7)⟩,
    ⟨some 9, (some (8, false)), .faddr 2 (.tmp 2)⟩,
    ⟨some 10, (some (8, false)), .ld none (.tmp 9)⟩,
    ⟨some 11, (some (8, false)), .ld none (.tmp 1)⟩,
    ⟨some 12, (some (8, false)), .bin .eql (.tmp 10) (.tmp 11)⟩,
    ⟨some 13, none, .pick (.tmp 8) (.val (.bool true)) (.tmp 12)⟩,
    ⟨some 3, none, .mv (.tmp 13)⟩] [] [3])
  (.ret))⟩
theorem pf63_ok : fnOk Try.prog 63 pf63 = true := by kernel_rfl

/-- hinterland/span.Drop -/
def pg24 : PFn := ⟨35, 3, [.tmp 6, .tmp 7, .tmp 8], .seq
  (.reg [⟨some 3, none, .boxp 24 (.tmp 0)⟩,
    ⟨some 6, none, .mv (.val (.list .nil 1 []))⟩,
    ⟨some 7, none, .mv (.val (.int .i64 0))⟩,
    ⟨some 8, none, .mv (.val (.int .i64 0))⟩] [] [1, 2, 3])
  (.seq
  (.seq
  (.reg [⟨some 11, none, .ld (some 3) (.tmp 3)⟩,
    ⟨some 12, none, .mv (.tmp 1)⟩,
    ⟨some 13, none, .call 38 .pure [(.tmp 11), (.tmp 12)]⟩,
    ⟨some 9, none, .mv (.tmp 13)⟩] [] [1, 2, 3, 9])
  (.seq
  (.reg [⟨some 14, none, .mv (.tmp 9)⟩,
    ⟨some 15, none, .bin .neq (.tmp 14) (.val (.int .i64 0))⟩] [] [1, 2, 3, 9, 15])
  (.cond (.tmp 15)
  (.seq
  (.reg [⟨some 16, none, .mv (.tmp 9)⟩,
    ⟨some 6, none, .mv (.val (.list .nil 1 []))⟩,
    ⟨some 7, none, .mv (.val (.int .i64 0))⟩,
    ⟨some 8, none, .mv (.tmp 16)⟩] [] [6, 7, 8])
  (.ret))
  (.skip))))
  (.seq
  (.reg [⟨some 17, none, .mv (.tmp 1)⟩,
    ⟨some 18, none, .mv (.tmp 2)⟩,
    ⟨some 19, none, .call 44 .pure [(.tmp 17), (.tmp 18)]⟩,
    ⟨some 10, none, .mv (.tmp 19)⟩] [] [1, 3, 10])
  (.seq
  (.seq
  (.reg [⟨some 20, none, .mv (.tmp 10)⟩,
    ⟨some 21, none, .bin .lss (.tmp 20) (.val (.int .i64 0))⟩] [] [1, 3, 10, 21])
  (.cond (.tmp 21)
  (.seq
  (.reg [⟨some 6, none, .mv (.val (.list .nil 1 []))⟩,
    ⟨some 7, none, .mv (.val (.int .i64 0))⟩,
    ⟨some 8, none, .mv (.val (.int .i64 2))⟩] [] [6, 7, 8])
  (.ret))
  (.skip)))
  (.seq
  (.reg [⟨some 22, none, .mv (.tmp 1)⟩,
    ⟨some 23, none, .call 46 .opn [(.tmp 22)]⟩,
    ⟨some 24, none, .mv (.tmp 10)⟩,
    ⟨some 25, none, .mv (.tmp 10)⟩,
    ⟨some 26, none, .bin .add (.tmp 25) (.val (.int .i64 1))⟩,
    ⟨some 27, none, .call 45 .opn [(.tmp 23), (.tmp 24), (.tmp 26)]⟩,
    ⟨some 28, none, .ld (some 3) (.tmp 3)⟩,
    ⟨some 29, none, .mv (.tmp 1)⟩,
    ⟨some 30, none, .mv (.tmp 10)⟩,
    ⟨some 31, none, .iaS 4 (.tmp 29) (.tmp 30)⟩,
    ⟨some 32, none, .ld (some 4) (.tmp 31)⟩,
    ⟨some 33, none, .call 34 .pure [(.tmp 28), (.tmp 32)]⟩,
    ⟨some 34, none, .bin .quo (.tmp 33) (.val (.int .i64 4))⟩,
    ⟨some 6, none, .mv (.tmp 27)⟩,
    ⟨some 7, none, .mv (.tmp 34)⟩,
    ⟨some 8, none, .mv (.val (.int .i64 0))⟩] [(6, 1), (6, 2), (6, 5), (6, 6), (10, 1), (10, 2), (10, 5), (10, 6)] [6, 7, 8])
  (.ret)))))⟩
theorem pg24_ok : fnOk Try.prog 24 pg24 = true := by kernel_rfl

/-- hinterland/span.meets -/
def pf51 : PFn := ⟨99, 3, [.cell 6 none], .seq
  (.reg [⟨some 3, none, .boxp 24 (.tmp 0)⟩,
    ⟨some 4, none, .boxp 26 (.tmp 1)⟩,
    ⟨some 5, none, .boxp 26 (.tmp 2)⟩,
    ⟨some 6, none, .zer 4 (.bool false)⟩] [] [3, 4, 5, 6])
  (.seq
  (.seq
  (.reg [⟨some 12, none, .faddr 1 (.tmp 4)⟩,
    ⟨some 13, none, .ld none (.tmp 12)⟩,
    ⟨some 14, none, .faddr 1 (.tmp 5)⟩,
    ⟨some 15, none, .ld none (.tmp 14)⟩,
    ⟨some 16, none, .bin .eql (.tmp 13) (.tmp 15)⟩,
    ⟨some 17, none, .mv (.tmp 16)⟩,
    ⟨some 18, (some (17, false)), .faddr 1 (.tmp 4)⟩,
    ⟨some 19, (some (17, false)), .ld none (.tmp 18)⟩,
    ⟨some 20, (some (17, false)), .faddr 2 (.tmp 5)⟩,
    ⟨some 21, (some (17, false)), .ld none (.tmp 20)⟩,
    ⟨some 22, (some (17, false)), .bin .eql (.tmp 19) (.tmp 21)⟩,
    ⟨some 23, none, .pick (.tmp 17) (.val (.bool true)) (.tmp 22)⟩,
    ⟨some 24, none, .mv (.tmp 23)⟩,
    ⟨some 25, (some (24, false)), .faddr 2 (.tmp 4)⟩,
    ⟨some 26, (some (24, false)), .ld none (.tmp 25)⟩,
    ⟨some 27, (some (24, false)), .faddr 1 (.tmp 5)⟩,
    ⟨some 28, (some (24, false)), .ld none (.tmp 27)⟩,
    ⟨some 29, (some (24, false)), .bin .eql (.tmp 26) (.tmp 28)⟩,
    ⟨some 30, none, .pick (.tmp 24) (.val (.bool true)) (.tmp 29)⟩,
    ⟨some 31, none, .mv (.tmp 30)⟩,
    ⟨some 32, (some (31, false)), .faddr 2 (.tmp 4)⟩,
    ⟨some 33, (some (31, false)), .ld none (.tmp 32)⟩,
    ⟨some 34, (some (31, false)), .faddr 2 (.tmp 5)⟩,
    ⟨some 35, (some (31, false)), .ld none (.tmp 34)⟩,
    ⟨some 36, (some (31, false)), .bin .eql (.tmp 33) (.tmp 35)⟩,
    ⟨some 37, none, .pick (.tmp 31) (.val (.bool true)) (.tmp 36)⟩] [] [3, 4, 5, 6, 37])
  (.cond (.tmp 37)
  (.seq
  (.reg [⟨none, none, .st 1 (.tmp 6) (.val (.bool true))⟩] [] [6])
  (.ret))
  (.skip)))
  (.seq
  (.seq
  (.reg [⟨some 38, none, .faddr 0 (.tmp 4)⟩,
    ⟨some 39, none, .ld none (.tmp 38)⟩,
    ⟨some 40, none, .faddr 0 (.tmp 5)⟩,
    ⟨some 41, none, .ld none (.tmp 40)⟩,
    ⟨some 42, none, .bin .neq (.tmp 39) (.tmp 41)⟩] [] [3, 4, 5, 6, 42])
  (.cond (.tmp 42)
  (.seq
  (.reg [⟨none, none, .st 1 (.tmp 6) (.val (.bool false))⟩] [] [6])
  (.ret))
  (.skip)))
  (.seq
  (.reg [⟨some 44, none, .ld (some 3) (.tmp 3)⟩,
    ⟨some 45, none, .faddr 1 (.tmp 4)⟩,
    ⟨some 46, none, .ld none (.tmp 45)⟩,
    ⟨some 47, none, .call 67 .pure [(.tmp 44), (.tmp 46)]⟩,
    ⟨some 43, none, .mv (.tmp 47)⟩,
    ⟨some 48, none, .ext 0 (.tmp 43)⟩,
    ⟨some 49, none, .ext 1 (.tmp 43)⟩,
    ⟨some 7, none, .mv (.tmp 48)⟩,
    ⟨some 8, none, .mv (.tmp 49)⟩] [] [3, 4, 5, 6, 7])
  (.seq
  (.seq
  (.reg [⟨some 51, none, .ld (some 3) (.tmp 3)⟩,
    ⟨some 52, none, .faddr 1 (.tmp 5)⟩,
    ⟨some 53, none, .ld none (.tmp 52)⟩,
    ⟨some 54, none, .call 67 .pure [(.tmp 51), (.tmp 53)]⟩,
    ⟨some 50, none, .mv (.tmp 54)⟩,
    ⟨some 55, none, .ext 0 (.tmp 50)⟩,
    ⟨some 56, none, .ext 1 (.tmp 50)⟩,
    ⟨some 9, none, .mv (.tmp 55)⟩,
    ⟨some 10, none, .mv (.tmp 56)⟩] [] [3, 4, 5, 6, 7, 9])
  (.seq
  (.reg [⟨some 57, none, .faddr 0 (.tmp 4)⟩,
    ⟨some 58, none, .ld none (.tmp 57)⟩,
    ⟨some 59, none, .bin .eql (.tmp 58) (.val (.int .i64 1))⟩,
    ⟨some 60, none, .mv (.tmp 59)⟩,
    ⟨some 61, (some (60, true)), .mv (.tmp 9)⟩,
    ⟨some 62, (some (60, true)), .mv (.tmp 7)⟩,
    ⟨some 63, (some (60, true)), .bin .neq (.tmp 61) (.tmp 62)⟩,
    ⟨some 64, none, .pick (.tmp 60) (.tmp 63) (.val (.bool false))⟩] [] [3, 4, 5, 6, 64])
  (.cond (.tmp 64)
  (.seq
  (.reg [⟨none, none, .st 1 (.tmp 6) (.val (.bool false))⟩] [] [6])
  (.ret))
  (.skip))))
  (.seq
  (.seq
  (.reg [⟨some 65, none, .ld (some 3) (.tmp 3)⟩,
    ⟨some 66, none, .ld (some 4) (.tmp 5)⟩,
    ⟨some 67, none, .faddr 1 (.tmp 4)⟩,
    ⟨some 68, none, .ld none (.tmp 67)⟩,
    ⟨some 69, none, .call 43 .pure [(.tmp 65), (.tmp 66), (.tmp 68)]⟩,
    ⟨some 70, none, .mv (.tmp 69)⟩,
    ⟨some 71, (some (70, false)), .ld (some 3) (.tmp 3)⟩,
    ⟨some 72, (some (70, false)), .ld (some 4) (.tmp 5)⟩,
    ⟨some 73, (some (70, false)), .faddr 2 (.tmp 4)⟩,
    ⟨some 74, (some (70, false)), .ld none (.tmp 73)⟩,
    ⟨some 75, (some (70, false)), .call 43 .pure [(.tmp 71), (.tmp 72), (.tmp 74)]⟩,
    ⟨some 76, none, .pick (.tmp 70) (.val (.bool true)) (.tmp 75)⟩,
    ⟨some 77, none, .mv (.tmp 76)⟩,
    ⟨some 78, (some (77, false)), .ld (some 3) (.tmp 3)⟩,
    ⟨some 79, (some (77, false)), .ld (some 4) (.tmp 4)⟩,
    ⟨some 80, (some (77, false)), .faddr 1 (.tmp 5)⟩,
    ⟨some 81, (some (77, false)), .ld none (.tmp 80)⟩,
    ⟨some 82, (some (77, false)), .call 43 .pure [(.tmp 78), (.tmp 79), (.tmp 81)]⟩,
    ⟨some 83, none, .pick (.tmp 77) (.val (.bool true)) (.tmp 82)⟩,
    ⟨some 84, none, .mv (.tmp 83)⟩,
    ⟨some 85, (some (84, false)), .ld (some 3) (.tmp 3)⟩,
    ⟨some 86, (some (84, false)), .ld (some 4) (.tmp 4)⟩,
    ⟨some 87, (some (84, false)), .faddr 2 (.tmp 5)⟩,
    ⟨some 88, (some (84, false)), .ld none (.tmp 87)⟩,
    ⟨some 89, (some (84, false)), .call 43 .pure [(.tmp 85), (.tmp 86), (.tmp 88)]⟩,
    ⟨some 90, none, .pick (.tmp 84) (.val (.bool true)) (.tmp 89)⟩] [] [3, 4, 5, 6, 90])
  (.cond (.tmp 90)
  (.seq
  (.reg [⟨none, none, .st 1 (.tmp 6) (.val (.bool true))⟩] [] [6])
  (.ret))
  (.skip)))
  (.seq
  (.seq
  (.reg [⟨some 91, none, .ld (some 3) (.tmp 3)⟩,
    ⟨some 92, none, .ld (some 4) (.tmp 4)⟩,
    ⟨some 93, none, .call 48 .opn [(.tmp 91), (.tmp 92)]⟩] [] [3, 5, 6, 93])
  (.blk 0 (.rng (.tmp 93) 94
  (.reg [⟨some 11, none, .mv (.tmp 94)⟩] [] [3, 5, 6, 11])
  (.blk 1 (.seq
  (.reg [⟨some 95, none, .ld (some 3) (.tmp 3)⟩,
    ⟨some 96, none, .ld (some 4) (.tmp 5)⟩,
    ⟨some 97, none, .mv (.tmp 11)⟩,
    ⟨some 98, none, .call 43 .pure [(.tmp 95), (.tmp 96), (.tmp 97)]⟩] [] [6, 98])
  (.cond (.tmp 98)
  (.seq
  (.reg [⟨none, none, .st 1 (.tmp 6) (.val (.bool true))⟩] [] [])
  (.ret))
  (.skip)))))))
  (.seq
  (.reg [⟨none, none, .st 1 (.tmp 6) (.val (.bool false))⟩] [] [6])
  (.ret))))))))⟩
theorem pf51_ok : fnOk Try.prog 51 pf51 = true := by kernel_rfl

/-- hinterland/span.Add -/
def pf28 : PFn := ⟨51, 3, [.tmp 6, .tmp 7, .tmp 8], .seq
  (.reg [⟨some 3, none, .boxp 24 (.tmp 0)⟩,
    ⟨some 5, none, .boxp 26 (.tmp 2)⟩,
    ⟨some 6, none, .mv (.val (.list .nil 1 []))⟩,
    ⟨some 7, none, .mv (.val (.int .i64 0))⟩,
    ⟨some 8, none, .mv (.val (.int .i64 0))⟩] [] [1, 3, 5])
  (.seq
  (.seq
  (.reg [⟨some 14, none, .ld (some 3) (.tmp 3)⟩,
    ⟨some 15, none, .mv (.tmp 1)⟩,
    ⟨some 16, none, .call 38 .pure [(.tmp 14), (.tmp 15)]⟩,
    ⟨some 9, none, .mv (.tmp 16)⟩] [] [1, 3, 5, 9])
  (.seq
  (.reg [⟨some 17, none, .mv (.tmp 9)⟩,
    ⟨some 18, none, .bin .neq (.tmp 17) (.val (.int .i64 0))⟩] [] [1, 3, 5, 9, 18])
  (.cond (.tmp 18)
  (.seq
  (.reg [⟨some 19, none, .mv (.tmp 9)⟩,
    ⟨some 6, none, .mv (.val (.list .nil 1 []))⟩,
    ⟨some 7, none, .mv (.val (.int .i64 0))⟩,
    ⟨some 8, none, .mv (.tmp 19)⟩] [] [6, 7, 8])
  (.ret))
  (.skip))))
  (.seq
  (.seq
  (.reg [⟨some 20, none, .ld (some 3) (.tmp 3)⟩,
    ⟨some 21, none, .ld (some 4) (.tmp 5)⟩,
    ⟨some 22, none, .call 32 .pure [(.tmp 20), (.tmp 21)]⟩,
    ⟨some 10, none, .mv (.tmp 22)⟩] [] [1, 3, 5, 10])
  (.seq
  (.reg [⟨some 23, none, .mv (.tmp 10)⟩,
    ⟨some 24, none, .bin .neq (.tmp 23) (.val (.int .i64 0))⟩] [] [1, 3, 5, 10, 24])
  (.cond (.tmp 24)
  (.seq
  (.reg [⟨some 25, none, .mv (.tmp 10)⟩,
    ⟨some 6, none, .mv (.val (.list .nil 1 []))⟩,
    ⟨some 7, none, .mv (.val (.int .i64 0))⟩,
    ⟨some 8, none, .mv (.tmp 25)⟩] [] [6, 7, 8])
  (.ret))
  (.skip))))
  (.seq
  (.seq
  (.reg [⟨some 26, none, .mv (.tmp 1)⟩,
    ⟨some 27, none, .len (.tmp 26)⟩,
    ⟨some 28, none, .mv (.val (.int .i64 0))⟩] [] [1, 3, 5, 26, 27, 28])
  (.blk 0 (.loop (.trim (.seq
  (.reg [⟨some 29, none, .bin .lss (.tmp 28) (.tmp 27)⟩] [] [1, 3, 5, 26, 27, 28, 29])
  (.seq
  (.cond (.tmp 29)
  (.skip)
  (.ext 0))
  (.seq
  (.blk 1 (.seq
  (.reg [⟨some 30, none, .iaS 4 (.tmp 26) (.tmp 28)⟩,
    ⟨some 31, none, .ld (some 4) (.tmp 30)⟩,
    ⟨some 12, none, .zer 26 (.agg [(.int .i64 0), (.int .i64 0), (.int .i64 0), (.int .i64 0)])⟩,
    ⟨none, none, .st 4 (.tmp 12) (.tmp 31)⟩] [] [1, 3, 5, 12, 26, 27, 28])
  (.seq
  (.reg [⟨some 32, none, .ld (some 3) (.tmp 3)⟩,
    ⟨some 33, none, .ld (some 4) (.tmp 5)⟩,
    ⟨some 34, none, .ld (some 4) (.tmp 12)⟩,
    ⟨some 35, none, .call 51 .pure [(.tmp 32), (.tmp 33), (.tmp 34)]⟩] [] [1, 3, 5, 26, 27, 28, 35])
  (.cond (.tmp 35)
  (.seq
  (.reg [⟨some 6, none, .mv (.val (.list .nil 1 []))⟩,
    ⟨some 7, none, .mv (.val (.int .i64 0))⟩,
    ⟨some 8, none, .mv (.val (.int .i64 7))⟩] [] [6, 7, 8])
  (.ret))
  (.skip)))))
  (.reg [⟨some 36, none, .bin .add (.tmp 28) (.val (.int .i64 1))⟩,
    ⟨some 28, none, .mv (.tmp 36)⟩] [] [1, 3, 5, 26, 27, 28]))))))))
  (.seq
  (.seq
  (.reg [⟨some 37, none, .mv (.tmp 1)⟩,
    ⟨some 38, none, .len (.tmp 37)⟩,
    ⟨some 39, none, .bin .geq (.tmp 38) (.val (.int .i64 40))⟩] [] [1, 3, 5, 39])
  (.cond (.tmp 39)
  (.seq
  (.reg [⟨some 6, none, .mv (.val (.list .nil 1 []))⟩,
    ⟨some 7, none, .mv (.val (.int .i64 0))⟩,
    ⟨some 8, none, .mv (.val (.int .i64 10))⟩] [] [6, 7, 8])
  (.ret))
  (.skip)))
  (.seq
  (.reg [⟨some 40, none, .mv (.tmp 1)⟩,
    ⟨some 41, none, .call 46 .opn [(.tmp 40)]⟩,
    ⟨some 42, none, .ld (some 4) (.tmp 5)⟩,
    ⟨some 43, none, .bsl 1 4 [(.int .i64 0), (.int .i64 0), (.int .i64 0), (.int .i64 0)] [(0, 4, (.tmp 42))]⟩,
    ⟨some 44, none, .app 26 4 32 (.tmp 41) (.tmp 43)⟩,
    ⟨some 13, none, .mv (.tmp 44)⟩] [(2, 1), (2, 2)] [3, 5, 13])
  (.seq
  (.reg [⟨some 45, none, .mv (.tmp 13)⟩,
    ⟨some 46, none, .call 52 .opn [(.tmp 45), (.val (.clo (.func 53) [] []))]⟩] [] [3, 5, 13])
  (.seq
  (.reg [⟨some 47, none, .mv (.tmp 13)⟩,
    ⟨some 48, none, .ld (some 3) (.tmp 3)⟩,
    ⟨some 49, none, .ld (some 4) (.tmp 5)⟩,
    ⟨some 50, none, .call 34 .pure [(.tmp 48), (.tmp 49)]⟩,
    ⟨some 6, none, .mv (.tmp 47)⟩,
    ⟨some 7, none, .mv (.tmp 50)⟩,
    ⟨some 8, none, .mv (.val (.int .i64 0))⟩] [] [6, 7, 8])
  (.ret))))))))⟩
theorem pf28_ok : fnOk Try.prog 28 pf28 = true := by kernel_rfl

/-- hinterland/hinterlandlaw05.SpanUndone -/
def pf11 : PFn := ⟨79, 3, [.tmp 6], .seq
  (.reg [⟨some 3, none, .boxp 24 (.tmp 0)⟩,
    ⟨some 5, none, .boxp 26 (.tmp 2)⟩,
    ⟨some 6, none, .mv (.val (.bool false))⟩] [] [1, 3, 5])
  (.seq
  (.seq
  (.reg [⟨some 16, none, .ld (some 3) (.tmp 3)⟩,
    ⟨some 17, none, .mv (.tmp 1)⟩,
    ⟨some 18, none, .call 12 .pure [(.tmp 16), (.tmp 17)]⟩] [] [1, 3, 5, 18])
  (.cond (.tmp 18)
  (.seq
  (.reg [⟨some 19, none, .call 13 .pure []⟩,
    ⟨some 6, none, .mv (.tmp 19)⟩] [] [6])
  (.ret))
  (.skip)))
  (.seq
  (.reg [⟨some 21, none, .ld (some 3) (.tmp 3)⟩,
    ⟨some 22, none, .mv (.tmp 1)⟩,
    ⟨some 23, none, .ld (some 4) (.tmp 5)⟩,
    ⟨some 24, none, .call 28 .pure [(.tmp 21), (.tmp 22), (.tmp 23)]⟩,
    ⟨some 20, none, .mv (.tmp 24)⟩,
    ⟨some 25, none, .ext 0 (.tmp 20)⟩,
    ⟨some 26, none, .ext 1 (.tmp 20)⟩,
    ⟨some 27, none, .ext 2 (.tmp 20)⟩,
    ⟨some 7, none, .mv (.tmp 25)⟩,
    ⟨some 8, none, .mv (.tmp 26)⟩,
    ⟨some 9, none, .mv (.tmp 27)⟩] [] [1, 3, 5, 7, 8, 9])
  (.seq
  (.seq
  (.reg [⟨some 28, none, .mv (.tmp 9)⟩,
    ⟨some 29, none, .bin .neq (.tmp 28) (.val (.int .i64 0))⟩] [] [1, 3, 5, 7, 8, 29])
  (.cond (.tmp 29)
  (.seq
  (.reg [⟨some 30, none, .call 13 .pure []⟩,
    ⟨some 6, none, .mv (.tmp 30)⟩] [] [6])
  (.ret))
  (.skip)))
  (.seq
  (.reg [⟨some 32, none, .ld (some 3) (.tmp 3)⟩,
    ⟨some 33, none, .mv (.tmp 7)⟩,
    ⟨some 34, none, .faddr 1 (.tmp 5)⟩,
    ⟨some 35, none, .ld none (.tmp 34)⟩,
    ⟨some 36, none, .call 24 .pure [(.tmp 32), (.tmp 33), (.tmp 35)]⟩,
    ⟨some 31, none, .mv (.tmp 36)⟩,
    ⟨some 37, none, .ext 0 (.tmp 31)⟩,
    ⟨some 38, none, .ext 1 (.tmp 31)⟩,
    ⟨some 39, none, .ext 2 (.tmp 31)⟩,
    ⟨some 10, none, .mv (.tmp 37)⟩,
    ⟨some 11, none, .mv (.tmp 38)⟩,
    ⟨some 12, none, .mv (.tmp 39)⟩] [] [1, 3, 5, 7, 8, 10, 11, 12])
  (.seq
  (.reg [⟨some 41, none, .ld (some 3) (.tmp 3)⟩,
    ⟨some 42, none, .mv (.tmp 7)⟩,
    ⟨some 43, none, .faddr 2 (.tmp 5)⟩,
    ⟨some 44, none, .ld none (.tmp 43)⟩,
    ⟨some 45, none, .call 24 .pure [(.tmp 41), (.tmp 42), (.tmp 44)]⟩,
    ⟨some 40, none, .mv (.tmp 45)⟩,
    ⟨some 46, none, .ext 0 (.tmp 40)⟩,
    ⟨some 47, none, .ext 1 (.tmp 40)⟩,
    ⟨some 48, none, .ext 2 (.tmp 40)⟩,
    ⟨some 13, none, .mv (.tmp 46)⟩,
    ⟨some 14, none, .mv (.tmp 47)⟩,
    ⟨some 15, none, .mv (.tmp 48)⟩] [] [1, 8, 10, 11, 12, 13, 14, 15])
  (.seq
  (.reg [⟨some 49, none, .mv (.tmp 12)⟩,
    ⟨some 50, none, .bin .eql (.tmp 49) (.val (.int .i64 0))⟩,
    ⟨some 51, none, .mv (.tmp 50)⟩,
    ⟨some 52, (some (51, true)), .mv (.tmp 15)⟩,
    ⟨some 53, (some (51, true)), .bin .eql (.tmp 52) (.val (.int .i64 0))⟩,
    ⟨some 54, none, .pick (.tmp 51) (.tmp 53) (.val (.bool false))⟩,
    ⟨some 55, none, .mv (.tmp 54)⟩,
    ⟨some 56, (some (55, true)), .mv (.tmp 11)⟩,
    ⟨some 57, (some (55, true)), .mv (.tmp 8)⟩,
    ⟨some 58, (some (55, true)), .bin .quo (.tmp 57) (.val (.int .i64 4))⟩,
    ⟨some 59, (some (55, true)), .bin .eql (.tmp 56) (.tmp 58)⟩,
    ⟨some 60, none, .pick (.tmp 55) (.tmp 59) (.val (.bool false))⟩,
    ⟨some 61, none, .mv (.tmp 60)⟩,
    ⟨some 62, (some (61, true)), .mv (.tmp 14)⟩,
    ⟨some 63, (some (61, true)), .mv (.tmp 11)⟩,
    ⟨some 64, (some (61, true)), .bin .eql (.tmp 62) (.tmp 63)⟩,
    ⟨some 65, none, .pick (.tmp 61) (.tmp 64) (.val (.bool false))⟩,
    ⟨some 66, none, .mv (.tmp 65)⟩,
    ⟨some 67, (some (66, true)), .mv (.tmp 10)⟩,
    ⟨some 68, (some (66, true)), .mv (.tmp 1)⟩,
    ⟨some 69, (some (66, true)), .call 22 .pure [(.tmp 67), (.tmp 68)]⟩,
    ⟨some 70, none, .pick (.tmp 66) (.tmp 69) (.val (.bool false))⟩,
    ⟨some 71, none, .mv (.tmp 70)⟩,
    ⟨some 72, (some (71, true)), .mv (.tmp 13)⟩,
    ⟨some 73, (some (71, true)), .mv (.tmp 1)⟩,
    ⟨some 74, (some (71, true)), .call 22 .pure [(.tmp 72), (.tmp 73)]⟩,
    ⟨some 75, none, .pick (.tmp 71) (.tmp 74) (.val (.bool false))⟩,
    ⟨some 76, none, .mv (.tmp 75)⟩,
    ⟨some 77, (some (76, true)), .call 13 .pure []⟩,
    ⟨some 78, none, .pick (.tmp 76) (.tmp 77) (.val (.bool false))⟩,
    ⟨some 6, none, .mv (.tmp 78)⟩] [] [6])
  (.ret)))))))⟩
theorem pf11_ok : fnOk Try.prog 11 pf11 = true := by kernel_rfl

/-- hinterland/hinterlandlaw05.SpanApart -/
def pf9 : PFn := ⟨179, 2, [.tmp 4], .seq
  (.reg [⟨some 2, none, .boxp 24 (.tmp 0)⟩,
    ⟨some 4, none, .mv (.val (.bool false))⟩] [] [1, 2])
  (.seq
  (.seq
  (.reg [⟨some 21, none, .ld (some 3) (.tmp 2)⟩,
    ⟨some 22, none, .mv (.tmp 1)⟩,
    ⟨some 23, none, .call 12 .pure [(.tmp 21), (.tmp 22)]⟩] [] [1, 2, 23])
  (.cond (.tmp 23)
  (.seq
  (.reg [⟨some 24, none, .call 13 .pure []⟩,
    ⟨some 4, none, .mv (.tmp 24)⟩] [] [4])
  (.ret))
  (.skip)))
  (.seq
  (.reg [⟨some 5, none, .mv (.val (.list .nil 4 []))⟩] [] [1, 2, 5])
  (.seq
  (.reg [⟨some 6, none, .mv (.val (.int .i64 0))⟩,
    ⟨some 7, none, .mv (.val (.int .i64 0))⟩] [] [1, 2, 5, 6, 7])
  (.seq
  (.seq
  (.reg [⟨some 8, none, .mv (.val (.int .i64 0))⟩] [] [1, 2, 5, 6, 7, 8])
  (.blk 0 (.loop (.seq
  (.seq
  (.reg [⟨some 25, none, .mv (.tmp 8)⟩,
    ⟨some 26, none, .mv (.tmp 1)⟩,
    ⟨some 27, none, .len (.tmp 26)⟩,
    ⟨some 28, none, .bin .lss (.tmp 25) (.tmp 27)⟩] [] [1, 2, 5, 6, 7, 8, 28])
  (.cond (.tmp 28)
  (.skip)
  (.ext 0)))
  (.seq
  (.blk 1 (.seq
  (.reg [⟨some 32, none, .ld (some 3) (.tmp 2)⟩,
    ⟨some 33, none, .mv (.tmp 5)⟩,
    ⟨some 34, none, .mv (.tmp 1)⟩,
    ⟨some 35, none, .mv (.tmp 8)⟩,
    ⟨some 36, none, .iaS 4 (.tmp 34) (.tmp 35)⟩,
    ⟨some 37, none, .ld (some 4) (.tmp 36)⟩,
    ⟨some 38, none, .call 28 .pure [(.tmp 32), (.tmp 33), (.tmp 37)]⟩,
    ⟨some 31, none, .mv (.tmp 38)⟩,
    ⟨some 39, none, .ext 0 (.tmp 31)⟩,
    ⟨some 40, none, .ext 1 (.tmp 31)⟩,
    ⟨some 41, none, .ext 2 (.tmp 31)⟩,
    ⟨some 9, none, .mv (.tmp 39)⟩,
    ⟨some 10, none, .mv (.tmp 40)⟩,
    ⟨some 11, none, .mv (.tmp 41)⟩] [] [1, 2, 5, 6, 7, 8, 9, 10, 11])
  (.seq
  (.reg [⟨some 42, none, .mv (.tmp 11)⟩,
    ⟨some 43, none, .bin .eql (.tmp 42) (.val (.int .i64 0))⟩] [] [1, 2, 5, 6, 7, 8, 9, 10, 43])
  (.cond (.tmp 43)
  (.seq
  (.reg [⟨some 44, none, .mv (.tmp 9)⟩,
    ⟨some 5, none, .mv (.tmp 44)⟩] [] [1, 2, 5, 6, 7, 8, 10])
  (.reg [⟨some 45, none, .mv (.tmp 6)⟩,
    ⟨some 46, none, .mv (.tmp 10)⟩,
    ⟨some 47, none, .bin .add (.tmp 45) (.tmp 46)⟩,
    ⟨some 6, none, .mv (.tmp 47)⟩] [] [1, 2, 5, 6, 7, 8]))
  (.skip)))))
  (.reg [⟨some 29, none, .mv (.tmp 8)⟩,
    ⟨some 30, none, .bin .add (.tmp 29) (.val (.int .i64 1))⟩,
    ⟨some 8, none, .mv (.tmp 30)⟩] [] [1, 2, 5, 6, 7, 8]))))))
  (.seq
  (.seq
  (.reg [⟨some 12, none, .mv (.val (.int .i64 0))⟩] [] [2, 5, 6, 7, 12])
  (.blk 2 (.loop (.seq
  (.seq
  (.reg [⟨some 48, none, .mv (.tmp 12)⟩,
    ⟨some 49, none, .mv (.tmp 5)⟩,
    ⟨some 50, none, .len (.tmp 49)⟩,
    ⟨some 51, none, .bin .lss (.tmp 48) (.tmp 50)⟩] [] [2, 5, 6, 7, 12, 51])
  (.cond (.tmp 51)
  (.skip)
  (.ext 2)))
  (.seq
  (.blk 3 (.seq
  (.reg [⟨some 55, none, .ld (some 3) (.tmp 2)⟩,
    ⟨some 56, none, .mv (.tmp 5)⟩,
    ⟨some 57, none, .mv (.tmp 12)⟩,
    ⟨some 58, none, .iaS 4 (.tmp 56) (.tmp 57)⟩,
    ⟨some 59, none, .ld (some 4) (.tmp 58)⟩,
    ⟨some 60, none, .call 17 .pure [(.tmp 55), (.tmp 59)]⟩,
    ⟨some 54, none, .mv (.tmp 60)⟩,
    ⟨some 61, none, .ext 0 (.tmp 54)⟩,
    ⟨some 62, none, .ext 1 (.tmp 54)⟩,
    ⟨some 13, none, .mv (.tmp 61)⟩,
    ⟨some 14, none, .mv (.tmp 62)⟩] [] [2, 5, 6, 7, 12, 13, 14])
  (.seq
  (.reg [⟨some 63, none, .mv (.tmp 7)⟩,
    ⟨some 64, none, .mv (.tmp 13)⟩,
    ⟨some 65, none, .bin .add (.tmp 63) (.tmp 64)⟩,
    ⟨some 7, none, .mv (.tmp 65)⟩] [] [2, 5, 6, 7, 12, 14])
  (.seq
  (.seq
  (.reg [⟨some 66, none, .mv (.tmp 14)⟩,
    ⟨some 67, none, .bin .neq (.tmp 66) (.val (.int .i64 0))⟩,
    ⟨some 68, none, .mv (.tmp 67)⟩,
    ⟨some 69, (some (68, false)), .ld (some 3) (.tmp 2)⟩,
    ⟨some 70, (some (68, false)), .mv (.tmp 5)⟩,
    ⟨some 71, (some (68, false)), .mv (.tmp 12)⟩,
    ⟨some 72, (some (68, false)), .iaS 4 (.tmp 70) (.tmp 71)⟩,
    ⟨some 73, (some (68, false)), .ld (some 4) (.tmp 72)⟩,
    ⟨some 74, (some (68, false)), .call 15 .pure [(.tmp 69), (.tmp 73)]⟩,
    ⟨some 75, (some (68, false)), .bin .neq (.tmp 74) (.val (.int .i64 0))⟩,
    ⟨some 76, none, .pick (.tmp 68) (.val (.bool true)) (.tmp 75)⟩] [] [2, 5, 6, 7, 12, 76])
  (.cond (.tmp 76)
  (.seq
  (.reg [⟨some 4, none, .mv (.val (.bool false))⟩] [] [4])
  (.ret))
  (.skip)))
  (.seq
  (.reg [⟨some 15, none, .mv (.val (.int .i64 0))⟩] [] [2, 5, 6, 7, 12, 15])
  (.blk 4 (.loop (.seq
  (.seq
  (.reg [⟨some 77, none, .mv (.tmp 15)⟩,
    ⟨some 78, none, .mv (.tmp 12)⟩,
    ⟨some 79, none, .bin .lss (.tmp 77) (.tmp 78)⟩] [] [2, 5, 6, 7, 12, 15, 79])
  (.cond (.tmp 79)
  (.skip)
  (.ext 4)))
  (.seq
  (.blk 5 (.seq
  (.reg [⟨some 82, none, .mv (.tmp 5)⟩,
    ⟨some 83, none, .mv (.tmp 12)⟩,
    ⟨some 84, none, .iaS 4 (.tmp 82) (.tmp 83)⟩,
    ⟨some 85, none, .faddr 1 (.tmp 84)⟩,
    ⟨some 86, none, .ld none (.tmp 85)⟩,
    ⟨some 87, none, .mv (.tmp 5)⟩,
    ⟨some 88, none, .mv (.tmp 15)⟩,
    ⟨some 89, none, .iaS 4 (.tmp 87) (.tmp 88)⟩,
    ⟨some 90, none, .faddr 1 (.tmp 89)⟩,
    ⟨some 91, none, .ld none (.tmp 90)⟩,
    ⟨some 92, none, .bin .eql (.tmp 86) (.tmp 91)⟩,
    ⟨some 93, none, .mv (.tmp 92)⟩,
    ⟨some 94, (some (93, false)), .mv (.tmp 5)⟩,
    ⟨some 95, (some (93, false)), .mv (.tmp 12)⟩,
    ⟨some 96, (some (93, false)), .iaS 4 (.tmp 94) (.tmp 95)⟩,
    ⟨some 97, (some (93, false)), .faddr 1 (.tmp 96)⟩,
    ⟨some 98, (some (93, false)), .ld none (.tmp 97)⟩,
    ⟨some 99, (some (93, false)), .mv (.tmp 5)⟩,
    ⟨some 100, (some (93, false)), .mv (.tmp 15)⟩,
    ⟨some 101, (some (93, false)), .iaS 4 (.tmp 99) (.tmp 100)⟩,
    ⟨some 102, (some (93, false)), .faddr 2 (.tmp 101)⟩,
    ⟨some 103, (some (93, false)), .ld none (.tmp 102)⟩,
    ⟨some 104, (some (93, false)), .bin .eql (.tmp 98) (.tmp 103)⟩,
    ⟨some 105, none, .pick (.tmp 93) (.val (.bool true)) (.tmp 104)⟩,
    ⟨some 106, none, .mv (.tmp 105)⟩,
    ⟨some 107, (some (106, false)), .mv (.tmp 5)⟩,
    ⟨some 108, (some (106, false)), .mv (.tmp 12)⟩,
    ⟨some 109, (some (106, false)), .iaS 4 (.tmp 107) (.tmp 108)⟩,
    ⟨some 110, (some (106, false)), .faddr 2 (.tmp 109)⟩,
    ⟨some 111, (some (106, false)), .ld none (.tmp 110)⟩,
    ⟨some 112, (some (106, false)), .mv (.tmp 5)⟩,
    ⟨some 113, (some (106, false)), .mv (.tmp 15)⟩,
    ⟨some 114, (some (106, false)), .iaS 4 (.tmp 112) (.tmp 113)⟩,
    ⟨some 115, (some (106, false)), .faddr 1 (.tmp 114)⟩,
    ⟨some 116, (some (106, false)), .ld none (.tmp 115)⟩,
    ⟨some 117, (some (106, false)), .bin .eql (.tmp 111) (.tmp 116)⟩,
    ⟨some 118, none, .pick (.tmp 106) (.val (.bool true)) (.tmp 117)⟩,
    ⟨some 119, none, .mv (.tmp 118)⟩,
    ⟨some 120, (some (119, false)), .mv (.tmp 5)⟩,
    ⟨some 121, (some (119, false)), .mv (.tmp 12)⟩,
    ⟨some 122, (some (119, false)), .iaS 4 (.tmp 120) (.tmp 121)⟩,
    ⟨some 123, (some (119, false)), .faddr 2 (.tmp 122)⟩,
    ⟨some 124, (some (119, false)), .ld none (.tmp 123)⟩,
    ⟨some 125, (some (119, false)), .mv (.tmp 5)⟩,
    ⟨some 126, (some (119, false)), .mv (.tmp 15)⟩,
    ⟨some 127, (some (119, false)), .iaS 4 (.tmp 125) (.tmp 126)⟩,
    ⟨some 128, (some (119, false)), .faddr 2 (.tmp 127)⟩,
    ⟨some 129, (some (119, false)), .ld none (.tmp 128)⟩,
    ⟨some 130, (some (119, false)), .bin .eql (.tmp 124) (.tmp 129)⟩,
    ⟨some 131, none, .pick (.tmp 119) (.val (.bool true)) (.tmp 130)⟩] [] [2, 5, 6, 7, 12, 15, 131])
  (.cond (.tmp 131)
  (.seq
  (.reg [⟨some 4, none, .mv (.val (.bool false))⟩] [] [4])
  (.ret))
  (.skip))))
  (.reg [⟨some 80, none, .mv (.tmp 15)⟩,
    ⟨some 81, none, .bin .add (.tmp 80) (.val (.int .i64 1))⟩,
    ⟨some 15, none, .mv (.tmp 81)⟩] [] [2, 5, 6, 7, 12, 15]))))))))))
  (.reg [⟨some 52, none, .mv (.tmp 12)⟩,
    ⟨some 53, none, .bin .add (.tmp 52) (.val (.int .i64 1))⟩,
    ⟨some 12, none, .mv (.tmp 53)⟩] [] [2, 5, 6, 7, 12]))))))
  (.seq
  (.seq
  (.reg [⟨some 16, none, .mv (.val (.int .i64 0))⟩] [] [2, 5, 6, 7, 16])
  (.blk 6 (.loop (.seq
  (.seq
  (.reg [⟨some 132, none, .mv (.tmp 16)⟩,
    ⟨some 133, none, .faddr 0 (.tmp 2)⟩,
    ⟨some 134, none, .ld none (.tmp 133)⟩,
    ⟨some 135, none, .faddr 1 (.tmp 2)⟩,
    ⟨some 136, none, .ld none (.tmp 135)⟩,
    ⟨some 137, none, .bin .mul (.tmp 134) (.tmp 136)⟩,
    ⟨some 138, none, .bin .lss (.tmp 132) (.tmp 137)⟩,
    ⟨some 139, none, .mv (.tmp 138)⟩,
    ⟨some 140, (some (139, true)), .mv (.tmp 5)⟩,
    ⟨some 141, (some (139, true)), .len (.tmp 140)⟩,
    ⟨some 142, (some (139, true)), .bin .gtr (.tmp 141) (.val (.int .i64 0))⟩,
    ⟨some 143, none, .pick (.tmp 139) (.tmp 142) (.val (.bool false))⟩] [] [2, 5, 6, 7, 16, 143])
  (.cond (.tmp 143)
  (.skip)
  (.ext 6)))
  (.seq
  (.blk 7 (.seq
  (.reg [⟨some 147, none, .ld (some 3) (.tmp 2)⟩,
    ⟨some 148, none, .mv (.tmp 5)⟩,
    ⟨some 149, none, .mv (.tmp 16)⟩,
    ⟨some 150, none, .call 21 .pure [(.tmp 147), (.tmp 148), (.tmp 149)]⟩,
    ⟨some 146, none, .mv (.tmp 150)⟩,
    ⟨some 151, none, .ext 0 (.tmp 146)⟩,
    ⟨some 152, none, .ext 1 (.tmp 146)⟩,
    ⟨some 17, none, .mv (.tmp 151)⟩,
    ⟨some 18, none, .mv (.tmp 152)⟩] [] [2, 5, 6, 7, 16, 17, 18])
  (.seq
  (.reg [⟨some 19, none, .mv (.val (.int .i64 0))⟩] [] [2, 5, 6, 7, 16, 17, 18, 19])
  (.seq
  (.seq
  (.reg [⟨some 20, none, .mv (.val (.int .i64 0))⟩] [] [2, 5, 6, 7, 16, 17, 18, 19, 20])
  (.blk 8 (.loop (.seq
  (.seq
  (.reg [⟨some 153, none, .mv (.tmp 20)⟩,
    ⟨some 154, none, .mv (.tmp 17)⟩,
    ⟨some 155, none, .len (.tmp 154)⟩,
    ⟨some 156, none, .bin .lss (.tmp 153) (.tmp 155)⟩] [] [2, 5, 6, 7, 16, 17, 18, 19, 20, 156])
  (.cond (.tmp 156)
  (.skip)
  (.ext 8)))
  (.seq
  (.blk 9 (.reg [⟨some 159, none, .mv (.tmp 19)⟩,
    ⟨some 160, none, .mv (.tmp 17)⟩,
    ⟨some 161, none, .mv (.tmp 20)⟩,
    ⟨some 162, none, .iaS 4 (.tmp 160) (.tmp 161)⟩,
    ⟨some 163, none, .faddr 0 (.tmp 162)⟩,
    ⟨some 164, none, .ld none (.tmp 163)⟩,
    ⟨some 165, none, .bin .sub (.val (.int .i64 1)) (.tmp 164)⟩,
    ⟨some 166, none, .bin .add (.tmp 159) (.tmp 165)⟩,
    ⟨some 19, none, .mv (.tmp 166)⟩] [] [2, 5, 6, 7, 16, 17, 18, 19, 20]))
  (.reg [⟨some 157, none, .mv (.tmp 20)⟩,
    ⟨some 158, none, .bin .add (.tmp 157) (.val (.int .i64 1))⟩,
    ⟨some 20, none, .mv (.tmp 158)⟩] [] [2, 5, 6, 7, 16, 17, 18, 19, 20]))))))
  (.seq
  (.reg [⟨some 167, none, .mv (.tmp 18)⟩,
    ⟨some 168, none, .bin .neq (.tmp 167) (.val (.int .i64 0))⟩,
    ⟨some 169, none, .mv (.tmp 168)⟩,
    ⟨some 170, (some (169, false)), .mv (.tmp 19)⟩,
    ⟨some 171, (some (169, false)), .bin .gtr (.tmp 170) (.val (.int .i64 1))⟩,
    ⟨some 172, none, .pick (.tmp 169) (.val (.bool true)) (.tmp 171)⟩] [] [2, 5, 6, 7, 16, 172])
  (.cond (.tmp 172)
  (.seq
  (.reg [⟨some 4, none, .mv (.val (.bool false))⟩] [] [4])
  (.ret))
  (.skip)))))))
  (.reg [⟨some 144, none, .mv (.tmp 16)⟩,
    ⟨some 145, none, .bin .add (.tmp 144) (.val (.int .i64 1))⟩,
    ⟨some 16, none, .mv (.tmp 145)⟩] [] [2, 5, 6, 7, 16]))))))
  (.seq
  (.reg [⟨some 173, none, .mv (.tmp 6)⟩,
    ⟨some 174, none, .mv (.tmp 7)⟩,
    ⟨some 175, none, .bin .eql (.tmp 173) (.tmp 174)⟩,
    ⟨some 176, none, .mv (.tmp 175)⟩,
    ⟨some 177, (some (176, true)), .call 13 .pure []⟩,
    ⟨some 178, none, .pick (.tmp 176) (.tmp 177) (.val (.bool false))⟩,
    ⟨some 4, none, .mv (.tmp 178)⟩] [] [4])
  (.ret))))))))⟩
theorem pf9_ok : fnOk Try.prog 9 pf9 = true := by kernel_rfl

/-- hinterland/hinterlandlaw05.SpanThereBack -/
def pf10 : PFn := ⟨82, 4, [.tmp 8], .seq
  (.reg [⟨some 4, none, .boxp 24 (.tmp 0)⟩,
    ⟨some 8, none, .mv (.val (.bool false))⟩] [] [1, 2, 3, 4])
  (.seq
  (.seq
  (.reg [⟨some 20, none, .ld (some 3) (.tmp 4)⟩,
    ⟨some 21, none, .mv (.tmp 1)⟩,
    ⟨some 22, none, .call 12 .pure [(.tmp 20), (.tmp 21)]⟩] [] [1, 2, 3, 4, 22])
  (.cond (.tmp 22)
  (.seq
  (.reg [⟨some 23, none, .call 13 .pure []⟩,
    ⟨some 8, none, .mv (.tmp 23)⟩] [] [8])
  (.ret))
  (.skip)))
  (.seq
  (.reg [⟨some 9, none, .mv (.val (.list .nil 4 []))⟩] [] [1, 2, 3, 4, 9])
  (.seq
  (.seq
  (.reg [⟨some 10, none, .mv (.val (.int .i64 0))⟩] [] [1, 2, 3, 4, 9, 10])
  (.blk 0 (.loop (.seq
  (.seq
  (.reg [⟨some 24, none, .mv (.tmp 10)⟩,
    ⟨some 25, none, .mv (.tmp 1)⟩,
    ⟨some 26, none, .len (.tmp 25)⟩,
    ⟨some 27, none, .bin .lss (.tmp 24) (.tmp 26)⟩] [] [1, 2, 3, 4, 9, 10, 27])
  (.cond (.tmp 27)
  (.skip)
  (.ext 0)))
  (.seq
  (.blk 1 (.seq
  (.reg [⟨some 31, none, .ld (some 3) (.tmp 4)⟩,
    ⟨some 32, none, .mv (.tmp 9)⟩,
    ⟨some 33, none, .mv (.tmp 1)⟩,
    ⟨some 34, none, .mv (.tmp 10)⟩,
    ⟨some 35, none, .iaS 4 (.tmp 33) (.tmp 34)⟩,
    ⟨some 36, none, .ld (some 4) (.tmp 35)⟩,
    ⟨some 37, none, .call 28 .pure [(.tmp 31), (.tmp 32), (.tmp 36)]⟩,
    ⟨some 30, none, .mv (.tmp 37)⟩,
    ⟨some 38, none, .ext 0 (.tmp 30)⟩,
    ⟨some 39, none, .ext 1 (.tmp 30)⟩,
    ⟨some 40, none, .ext 2 (.tmp 30)⟩,
    ⟨some 11, none, .mv (.tmp 38)⟩,
    ⟨some 12, none, .mv (.tmp 39)⟩,
    ⟨some 13, none, .mv (.tmp 40)⟩] [] [1, 2, 3, 4, 9, 10, 11, 13])
  (.seq
  (.reg [⟨some 41, none, .mv (.tmp 13)⟩,
    ⟨some 42, none, .bin .eql (.tmp 41) (.val (.int .i64 0))⟩] [] [1, 2, 3, 4, 9, 10, 11, 42])
  (.cond (.tmp 42)
  (.reg [⟨some 43, none, .mv (.tmp 11)⟩,
    ⟨some 9, none, .mv (.tmp 43)⟩] [] [1, 2, 3, 4, 9, 10])
  (.skip)))))
  (.reg [⟨some 28, none, .mv (.tmp 10)⟩,
    ⟨some 29, none, .bin .add (.tmp 28) (.val (.int .i64 1))⟩,
    ⟨some 10, none, .mv (.tmp 29)⟩] [] [1, 2, 3, 4, 9, 10]))))))
  (.seq
  (.reg [⟨some 45, none, .ld (some 3) (.tmp 4)⟩,
    ⟨some 46, none, .mv (.tmp 9)⟩,
    ⟨some 47, none, .mv (.tmp 2)⟩,
    ⟨some 48, none, .mv (.tmp 3)⟩,
    ⟨some 49, none, .call 19 .pure [(.tmp 45), (.tmp 46), (.tmp 47), (.tmp 48)]⟩,
    ⟨some 44, none, .mv (.tmp 49)⟩,
    ⟨some 50, none, .ext 0 (.tmp 44)⟩,
    ⟨some 51, none, .ext 1 (.tmp 44)⟩,
    ⟨some 52, none, .ext 2 (.tmp 44)⟩,
    ⟨some 14, none, .mv (.tmp 50)⟩,
    ⟨some 15, none, .mv (.tmp 51)⟩,
    ⟨some 16, none, .mv (.tmp 52)⟩] [] [2, 3, 4, 9, 14, 15, 16])
  (.seq
  (.seq
  (.reg [⟨some 53, none, .mv (.tmp 16)⟩,
    ⟨some 54, none, .bin .neq (.tmp 53) (.val (.int .i64 0))⟩] [] [2, 3, 4, 9, 14, 15, 54])
  (.cond (.tmp 54)
  (.seq
  (.reg [⟨some 55, none, .call 13 .pure []⟩,
    ⟨some 8, none, .mv (.tmp 55)⟩] [] [8])
  (.ret))
  (.skip)))
  (.seq
  (.reg [⟨some 57, none, .ld (some 3) (.tmp 4)⟩,
    ⟨some 58, none, .mv (.tmp 9)⟩,
    ⟨some 59, none, .mv (.tmp 14)⟩,
    ⟨some 60, none, .mv (.tmp 3)⟩,
    ⟨some 61, none, .bin .add (.tmp 60) (.val (.int .i64 2))⟩,
    ⟨some 62, none, .bin .rem (.tmp 61) (.val (.int .i64 4))⟩,
    ⟨some 63, none, .call 19 .pure [(.tmp 57), (.tmp 58), (.tmp 59), (.tmp 62)]⟩,
    ⟨some 56, none, .mv (.tmp 63)⟩,
    ⟨some 64, none, .ext 0 (.tmp 56)⟩,
    ⟨some 65, none, .ext 1 (.tmp 56)⟩,
    ⟨some 66, none, .ext 2 (.tmp 56)⟩,
    ⟨some 17, none, .mv (.tmp 64)⟩,
    ⟨some 18, none, .mv (.tmp 65)⟩,
    ⟨some 19, none, .mv (.tmp 66)⟩] [] [2, 15, 17, 18, 19])
  (.seq
  (.reg [⟨some 67, none, .mv (.tmp 19)⟩,
    ⟨some 68, none, .bin .eql (.tmp 67) (.val (.int .i64 0))⟩,
    ⟨some 69, none, .mv (.tmp 68)⟩,
    ⟨some 70, (some (69, true)), .mv (.tmp 17)⟩,
    ⟨some 71, (some (69, true)), .mv (.tmp 2)⟩,
    ⟨some 72, (some (69, true)), .bin .eql (.tmp 70) (.tmp 71)⟩,
    ⟨some 73, none, .pick (.tmp 69) (.tmp 72) (.val (.bool false))⟩,
    ⟨some 74, none, .mv (.tmp 73)⟩,
    ⟨some 75, (some (74, true)), .mv (.tmp 18)⟩,
    ⟨some 76, (some (74, true)), .mv (.tmp 15)⟩,
    ⟨some 77, (some (74, true)), .bin .eql (.tmp 75) (.tmp 76)⟩,
    ⟨some 78, none, .pick (.tmp 74) (.tmp 77) (.val (.bool false))⟩,
    ⟨some 79, none, .mv (.tmp 78)⟩,
    ⟨some 80, (some (79, true)), .call 13 .pure []⟩,
    ⟨some 81, none, .pick (.tmp 79) (.tmp 80) (.val (.bool false))⟩,
    ⟨some 8, none, .mv (.tmp 81)⟩] [] [8])
  (.ret))))))))⟩
theorem pf10_ok : fnOk Try.prog 10 pf10 = true := by kernel_rfl

/-- slices.Clone[[]hinterland/api.Span,hinterland/api.Span] -/
def pg46 : PFn := ⟨8, 1, [.tmp 2], .seq
  (.reg [⟨some 2, none, .mv (.val (.list .nil 4 []))⟩] [] [0])
  (.seq
  (.seq
  (.reg [⟨some 3, none, .mv (.tmp 0)⟩,
    ⟨some 4, none, .eqn false (.tmp 3) (.val (.list .nil 1 []))⟩] [] [0, 4])
  (.cond (.tmp 4)
  (.seq
  (.reg [⟨some 2, none, .mv (.val (.list .nil 4 []))⟩] [] [2])
  (.ret))
  (.skip)))
  (.seq
  (.reg [⟨some 5, none, .bsl 0 4 [(.int .i64 0), (.int .i64 0), (.int .i64 0), (.int .i64 0)] []⟩,
    ⟨some 6, none, .mv (.tmp 0)⟩,
    ⟨some 7, none, .app 26 4 32 (.tmp 5) (.tmp 6)⟩,
    ⟨some 2, none, .mv (.tmp 7)⟩] [] [2])
  (.ret)))⟩
theorem pg46_ok : fnOk Try.prog 46 pg46 = true := by kernel_rfl

end Go.Proofs.Ytpnhdcjfhlcgoaa
