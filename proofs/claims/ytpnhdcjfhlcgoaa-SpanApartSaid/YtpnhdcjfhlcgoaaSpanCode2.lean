/- PCode of functions, written by wip/tools/gen.py out of the loaded functions' print. -/
import Derived.Test.YtpnhdcjfhlcgoaaPmTwenty
import Derived.Test.YtpnhdcjfhlcgoaaProg
import Derived.KernelRfl
set_option maxRecDepth 100000
namespace Go.Proofs.Ytpnhdcjfhlcgoaa
open Go.Proofs.Ytpnhdcjfhlcgoaa.PM

/-- hinterland/hinterlandref05.Held -/
def pf25 : PFn := ⟨70, 2, [.tmp 4, .tmp 5], .seq
  (.reg [⟨some 2, none, .boxp 24 (.tmp 0)⟩,
    ⟨some 4, none, .mv (.val (.list .nil 1 []))⟩,
    ⟨some 5, none, .mv (.val (.int .i64 0))⟩] [] [1, 2])
  (.seq
  (.seq
  (.reg [⟨some 10, none, .ld (some 3) (.tmp 2)⟩,
    ⟨some 11, none, .mv (.tmp 1)⟩,
    ⟨some 12, none, .call 35 .pure [(.tmp 10), (.tmp 11)]⟩,
    ⟨some 6, none, .mv (.tmp 12)⟩] [] [1, 2, 6])
  (.seq
  (.reg [⟨some 13, none, .mv (.tmp 6)⟩,
    ⟨some 14, none, .bin .neq (.tmp 13) (.val (.int .i64 0))⟩] [] [1, 2, 6, 14])
  (.cond (.tmp 14)
  (.seq
  (.reg [⟨some 15, none, .mv (.tmp 6)⟩,
    ⟨some 4, none, .mv (.val (.list .nil 1 []))⟩,
    ⟨some 5, none, .mv (.tmp 15)⟩] [] [4, 5])
  (.ret))
  (.skip))))
  (.seq
  (.reg [⟨some 7, none, .nacc 3 1⟩] [] [1, 2, 7])
  (.seq
  (.seq
  (.reg [⟨some 8, none, .mv (.val (.int .i64 0))⟩] [] [1, 2, 7, 8])
  (.blk 0 (.loop (.seq
  (.seq
  (.reg [⟨some 16, none, .mv (.tmp 8)⟩,
    ⟨some 17, none, .faddr 0 (.tmp 2)⟩,
    ⟨some 18, none, .ld none (.tmp 17)⟩,
    ⟨some 19, none, .faddr 1 (.tmp 2)⟩,
    ⟨some 20, none, .ld none (.tmp 19)⟩,
    ⟨some 21, none, .bin .mul (.tmp 18) (.tmp 20)⟩,
    ⟨some 22, none, .bin .lss (.tmp 16) (.tmp 21)⟩] [] [1, 2, 7, 8, 22])
  (.cond (.tmp 22)
  (.skip)
  (.ext 0)))
  (.seq
  (.blk 1 (.seq
  (.reg [⟨some 9, none, .mv (.val (.int .i64 0))⟩] [] [1, 2, 7, 8, 9])
  (.blk 2 (.loop (.seq
  (.seq
  (.reg [⟨some 25, none, .mv (.tmp 9)⟩,
    ⟨some 26, none, .mv (.tmp 1)⟩,
    ⟨some 27, none, .len (.tmp 26)⟩,
    ⟨some 28, none, .bin .lss (.tmp 25) (.tmp 27)⟩] [] [1, 2, 7, 8, 9, 28])
  (.cond (.tmp 28)
  (.skip)
  (.ext 2)))
  (.seq
  (.blk 3 (.seq
  (.reg [⟨some 31, none, .mv (.tmp 1)⟩,
    ⟨some 32, none, .mv (.tmp 9)⟩,
    ⟨some 33, none, .iaS 4 (.tmp 31) (.tmp 32)⟩,
    ⟨some 34, none, .faddr 1 (.tmp 33)⟩,
    ⟨some 35, none, .ld none (.tmp 34)⟩,
    ⟨some 36, none, .mv (.tmp 8)⟩,
    ⟨some 37, none, .bin .eql (.tmp 35) (.tmp 36)⟩,
    ⟨some 38, none, .mv (.tmp 37)⟩,
    ⟨some 39, (some (38, false)), .mv (.tmp 1)⟩,
    ⟨some 40, (some (38, false)), .mv (.tmp 9)⟩,
    ⟨some 41, (some (38, false)), .iaS 4 (.tmp 39) (.tmp 40)⟩,
    ⟨some 42, (some (38, false)), .faddr 2 (.tmp 41)⟩,
    ⟨some 43, (some (38, false)), .ld none (.tmp 42)⟩,
    ⟨some 44, (some (38, false)), .mv (.tmp 8)⟩,
    ⟨some 45, (some (38, false)), .bin .eql (.tmp 43) (.tmp 44)⟩,
    ⟨some 46, none, .pick (.tmp 38) (.val (.bool true)) (.tmp 45)⟩,
    ⟨some 47, none, .mv (.tmp 46)⟩,
    ⟨some 48, (some (47, false)), .mv (.tmp 1)⟩,
    ⟨some 49, (some (47, false)), .mv (.tmp 9)⟩,
    ⟨some 50, (some (47, false)), .iaS 4 (.tmp 48) (.tmp 49)⟩,
    ⟨some 51, (some (47, false)), .faddr 0 (.tmp 50)⟩,
    ⟨some 52, (some (47, false)), .ld none (.tmp 51)⟩,
    ⟨some 53, (some (47, false)), .bin .eql (.tmp 52) (.val (.int .i64 0))⟩,
    ⟨some 54, (some (47, false)), .mv (.tmp 53)⟩,
    ⟨some 55, (some (54, true)), .ld (some 3) (.tmp 2)⟩,
    ⟨some 56, (some (54, true)), .mv (.tmp 1)⟩,
    ⟨some 57, (some (54, true)), .mv (.tmp 9)⟩,
    ⟨some 58, (some (54, true)), .iaS 4 (.tmp 56) (.tmp 57)⟩,
    ⟨some 59, (some (54, true)), .ld (some 4) (.tmp 58)⟩,
    ⟨some 60, (some (54, true)), .call 37 .pure [(.tmp 55), (.tmp 59)]⟩,
    ⟨some 61, (some (54, true)), .mv (.tmp 8)⟩,
    ⟨some 62, (some (54, true)), .call 41 .pure [(.tmp 60), (.tmp 61)]⟩,
    ⟨some 63, (some (47, false)), .pick (.tmp 54) (.tmp 62) (.val (.bool false))⟩,
    ⟨some 64, none, .pick (.tmp 47) (.val (.bool true)) (.tmp 63)⟩] [] [1, 2, 7, 8, 9, 64])
  (.cond (.tmp 64)
  (.seq
  (.reg [⟨some 65, none, .mv (.tmp 7)⟩,
    ⟨some 66, none, .mv (.tmp 8)⟩,
    ⟨some 67, none, .bsl 1 1 [(.int .i64 0)] [(0, 1, (.tmp 66))]⟩,
    ⟨some 68, none, .app 3 1 8 (.tmp 65) (.tmp 67)⟩,
    ⟨some 7, none, .mv (.tmp 68)⟩] [] [1, 2, 7, 8])
  (.ext 2))
  (.skip))))
  (.reg [⟨some 29, none, .mv (.tmp 9)⟩,
    ⟨some 30, none, .bin .add (.tmp 29) (.val (.int .i64 1))⟩,
    ⟨some 9, none, .mv (.tmp 30)⟩] [] [1, 2, 7, 8, 9])))))))
  (.reg [⟨some 23, none, .mv (.tmp 8)⟩,
    ⟨some 24, none, .bin .add (.tmp 23) (.val (.int .i64 1))⟩,
    ⟨some 8, none, .mv (.tmp 24)⟩] [] [1, 2, 7, 8]))))))
  (.seq
  (.reg [⟨some 69, none, .mv (.tmp 7)⟩,
    ⟨some 4, none, .mv (.tmp 69)⟩,
    ⟨some 5, none, .mv (.val (.int .i64 0))⟩] [] [4, 5])
  (.ret)))))⟩
theorem pf25_ok : fnOk Try.prog 25 pf25 = true := by kernel_rfl

/-- slices.AppendSeq[[]int,int] -/
def pf47 : PFn := ⟨13, 2, [.tmp 4], .seq
  (.reg [⟨some 2, none, .boxm 22 (.tmp 0)⟩,
    ⟨some 4, none, .mv (.val (.list .nil 1 []))⟩] [] [1, 2, 4])
  (.seq
  (.seq
  (.reg [⟨some 6, none, .mv (.tmp 1)⟩] [] [2, 4, 6])
  (.blk 0 (.rng (.tmp 6) 7
  (.reg [⟨some 5, none, .mv (.tmp 7)⟩] [] [2, 5])
  (.blk 1 (.reg [⟨some 8, none, .ld none (.tmp 2)⟩,
    ⟨some 9, none, .mv (.tmp 5)⟩,
    ⟨some 10, none, .bsl 1 1 [(.int .i64 0)] [(0, 1, (.tmp 9))]⟩,
    ⟨some 11, none, .app 3 1 8 (.tmp 8) (.tmp 10)⟩,
    ⟨none, none, .st 1 (.tmp 2) (.tmp 11)⟩] [] [])))))
  (.seq
  (.reg [⟨some 12, none, .ld none (.tmp 2)⟩,
    ⟨some 4, none, .mv (.tmp 12)⟩] [] [4])
  (.ret)))⟩
theorem pf47_ok : fnOk Try.prog 47 pf47 = true := by kernel_rfl

/-- hinterland/span.Held -/
def pf26 : PFn := ⟨42, 2, [.tmp 4, .tmp 5], .seq
  (.reg [⟨some 2, none, .boxp 24 (.tmp 0)⟩,
    ⟨some 4, none, .mv (.val (.list .nil 1 []))⟩,
    ⟨some 5, none, .mv (.val (.int .i64 0))⟩] [] [1, 2])
  (.seq
  (.seq
  (.reg [⟨some 10, none, .ld (some 3) (.tmp 2)⟩,
    ⟨some 11, none, .mv (.tmp 1)⟩,
    ⟨some 12, none, .call 38 .pure [(.tmp 10), (.tmp 11)]⟩,
    ⟨some 6, none, .mv (.tmp 12)⟩] [] [1, 2, 6])
  (.seq
  (.reg [⟨some 13, none, .mv (.tmp 6)⟩,
    ⟨some 14, none, .bin .neq (.tmp 13) (.val (.int .i64 0))⟩] [] [1, 2, 6, 14])
  (.cond (.tmp 14)
  (.seq
  (.reg [⟨some 15, none, .mv (.tmp 6)⟩,
    ⟨some 4, none, .mv (.val (.list .nil 1 []))⟩,
    ⟨some 5, none, .mv (.tmp 15)⟩] [] [4, 5])
  (.ret))
  (.skip))))
  (.seq
  (.reg [⟨some 7, none, .nacc 3 1⟩] [] [1, 2, 7])
  (.seq
  (.seq
  (.reg [⟨some 16, none, .mv (.tmp 1)⟩,
    ⟨some 17, none, .len (.tmp 16)⟩,
    ⟨some 18, none, .mv (.val (.int .i64 0))⟩] [] [2, 7, 16, 17, 18])
  (.blk 0 (.loop (.trim (.seq
  (.reg [⟨some 19, none, .bin .lss (.tmp 18) (.tmp 17)⟩] [] [2, 7, 16, 17, 18, 19])
  (.seq
  (.cond (.tmp 19)
  (.skip)
  (.ext 0))
  (.seq
  (.blk 1 (.seq
  (.reg [⟨some 20, none, .iaS 4 (.tmp 16) (.tmp 18)⟩,
    ⟨some 21, none, .ld (some 4) (.tmp 20)⟩,
    ⟨some 9, none, .zer 26 (.agg [(.int .i64 0), (.int .i64 0), (.int .i64 0), (.int .i64 0)])⟩,
    ⟨none, none, .st 4 (.tmp 9) (.tmp 21)⟩] [] [2, 7, 9, 16, 17, 18])
  (.seq
  (.reg [⟨some 22, none, .mv (.tmp 7)⟩,
    ⟨some 23, none, .faddr 1 (.tmp 9)⟩,
    ⟨some 24, none, .ld none (.tmp 23)⟩,
    ⟨some 25, none, .faddr 2 (.tmp 9)⟩,
    ⟨some 26, none, .ld none (.tmp 25)⟩,
    ⟨some 27, none, .bsl 2 1 [(.int .i64 0)] [(0, 1, (.tmp 24)), (1, 1, (.tmp 26))]⟩,
    ⟨some 28, none, .app 3 1 8 (.tmp 22) (.tmp 27)⟩,
    ⟨some 7, none, .mv (.tmp 28)⟩] [] [2, 7, 9, 16, 17, 18])
  (.seq
  (.reg [⟨some 29, none, .faddr 0 (.tmp 9)⟩,
    ⟨some 30, none, .ld none (.tmp 29)⟩,
    ⟨some 31, none, .bin .neq (.tmp 30) (.val (.int .i64 1))⟩] [] [2, 7, 9, 16, 17, 18, 31])
  (.cond (.tmp 31)
  (.reg [⟨some 32, none, .mv (.tmp 7)⟩,
    ⟨some 33, none, .ld (some 3) (.tmp 2)⟩,
    ⟨some 34, none, .ld (some 4) (.tmp 9)⟩,
    ⟨some 35, none, .call 48 .opn [(.tmp 33), (.tmp 34)]⟩,
    ⟨some 36, none, .call 47 .opn [(.tmp 32), (.tmp 35)]⟩,
    ⟨some 7, none, .mv (.tmp 36)⟩] [] [2, 7, 16, 17, 18])
  (.skip))))))
  (.reg [⟨some 37, none, .bin .add (.tmp 18) (.val (.int .i64 1))⟩,
    ⟨some 18, none, .mv (.tmp 37)⟩] [] [2, 7, 16, 17, 18]))))))))
  (.seq
  (.reg [⟨some 38, none, .mv (.tmp 7)⟩,
    ⟨some 39, none, .call 49 .opn [(.tmp 38)]⟩] [] [7])
  (.seq
  (.reg [⟨some 40, none, .mv (.tmp 7)⟩,
    ⟨some 41, none, .call 50 .opn [(.tmp 40)]⟩,
    ⟨some 4, none, .mv (.tmp 41)⟩,
    ⟨some 5, none, .mv (.val (.int .i64 0))⟩] [] [4, 5])
  (.ret))))))⟩
theorem pf26_ok : fnOk Try.prog 26 pf26 = true := by kernel_rfl

/-- hinterland/hinterlandsame.List[int] -/
def pf27 : PFn := ⟨26, 2, [.tmp 4], .seq
  (.reg [⟨some 4, none, .mv (.val (.bool false))⟩] [] [0, 1])
  (.seq
  (.seq
  (.reg [⟨some 6, none, .mv (.tmp 0)⟩,
    ⟨some 7, none, .len (.tmp 6)⟩,
    ⟨some 8, none, .mv (.tmp 1)⟩,
    ⟨some 9, none, .len (.tmp 8)⟩,
    ⟨some 10, none, .bin .neq (.tmp 7) (.tmp 9)⟩] [] [0, 1, 10])
  (.cond (.tmp 10)
  (.seq
  (.reg [⟨some 4, none, .mv (.val (.bool false))⟩] [] [4])
  (.ret))
  (.skip)))
  (.seq
  (.seq
  (.reg [⟨some 5, none, .mv (.val (.int .i64 0))⟩] [] [0, 1, 5])
  (.blk 0 (.loop (.seq
  (.seq
  (.reg [⟨some 11, none, .mv (.tmp 5)⟩,
    ⟨some 12, none, .mv (.tmp 0)⟩,
    ⟨some 13, none, .len (.tmp 12)⟩,
    ⟨some 14, none, .bin .lss (.tmp 11) (.tmp 13)⟩] [] [0, 1, 5, 14])
  (.cond (.tmp 14)
  (.skip)
  (.ext 0)))
  (.seq
  (.blk 1 (.seq
  (.reg [⟨some 17, none, .mv (.tmp 0)⟩,
    ⟨some 18, none, .mv (.tmp 5)⟩,
    ⟨some 19, none, .iaS 1 (.tmp 17) (.tmp 18)⟩,
    ⟨some 20, none, .ld none (.tmp 19)⟩,
    ⟨some 21, none, .mv (.tmp 1)⟩,
    ⟨some 22, none, .mv (.tmp 5)⟩,
    ⟨some 23, none, .iaS 1 (.tmp 21) (.tmp 22)⟩,
    ⟨some 24, none, .ld none (.tmp 23)⟩,
    ⟨some 25, none, .bin .neq (.tmp 20) (.tmp 24)⟩] [] [0, 1, 5, 25])
  (.cond (.tmp 25)
  (.seq
  (.reg [⟨some 4, none, .mv (.val (.bool false))⟩] [] [4])
  (.ret))
  (.skip))))
  (.reg [⟨some 15, none, .mv (.tmp 5)⟩,
    ⟨some 16, none, .bin .add (.tmp 15) (.val (.int .i64 1))⟩,
    ⟨some 5, none, .mv (.tmp 16)⟩] [] [0, 1, 5]))))))
  (.seq
  (.reg [⟨some 4, none, .mv (.val (.bool true))⟩] [] [4])
  (.ret))))⟩
theorem pf27_ok : fnOk Try.prog 27 pf27 = true := by kernel_rfl

/-- hinterland/hinterlandlaw05.SpanHolds -/
def pf8 : PFn := ⟨36, 2, [.tmp 4], .seq
  (.reg [⟨some 2, none, .boxp 24 (.tmp 0)⟩,
    ⟨some 4, none, .mv (.val (.bool false))⟩] [] [1, 2])
  (.seq
  (.seq
  (.reg [⟨some 9, none, .ld (some 3) (.tmp 2)⟩,
    ⟨some 10, none, .mv (.tmp 1)⟩,
    ⟨some 11, none, .call 12 .pure [(.tmp 9), (.tmp 10)]⟩] [] [1, 2, 11])
  (.cond (.tmp 11)
  (.seq
  (.reg [⟨some 12, none, .call 13 .pure []⟩,
    ⟨some 4, none, .mv (.tmp 12)⟩] [] [4])
  (.ret))
  (.skip)))
  (.seq
  (.reg [⟨some 14, none, .ld (some 3) (.tmp 2)⟩,
    ⟨some 15, none, .mv (.tmp 1)⟩,
    ⟨some 16, none, .call 25 .pure [(.tmp 14), (.tmp 15)]⟩,
    ⟨some 13, none, .mv (.tmp 16)⟩,
    ⟨some 17, none, .ext 0 (.tmp 13)⟩,
    ⟨some 18, none, .ext 1 (.tmp 13)⟩,
    ⟨some 5, none, .mv (.tmp 17)⟩,
    ⟨some 6, none, .mv (.tmp 18)⟩] [] [1, 2, 5, 6])
  (.seq
  (.reg [⟨some 20, none, .ld (some 3) (.tmp 2)⟩,
    ⟨some 21, none, .mv (.tmp 1)⟩,
    ⟨some 22, none, .call 26 .pure [(.tmp 20), (.tmp 21)]⟩,
    ⟨some 19, none, .mv (.tmp 22)⟩,
    ⟨some 23, none, .ext 0 (.tmp 19)⟩,
    ⟨some 24, none, .ext 1 (.tmp 19)⟩,
    ⟨some 7, none, .mv (.tmp 23)⟩,
    ⟨some 8, none, .mv (.tmp 24)⟩] [] [5, 6, 7, 8])
  (.seq
  (.reg [⟨some 25, none, .mv (.tmp 8)⟩,
    ⟨some 26, none, .mv (.tmp 6)⟩,
    ⟨some 27, none, .bin .eql (.tmp 25) (.tmp 26)⟩,
    ⟨some 28, none, .mv (.tmp 27)⟩,
    ⟨some 29, (some (28, true)), .mv (.tmp 7)⟩,
    ⟨some 30, (some (28, true)), .mv (.tmp 5)⟩,
    ⟨some 31, (some (28, true)), .call 27 .pure [(.tmp 29), (.tmp 30)]⟩,
    ⟨some 32, none, .pick (.tmp 28) (.tmp 31) (.val (.bool false))⟩,
    ⟨some 33, none, .mv (.tmp 32)⟩,
    ⟨some 34, (some (33, true)), .call 13 .pure []⟩,
    ⟨some 35, none, .pick (.tmp 33) (.tmp 34) (.val (.bool false))⟩,
    ⟨some 4, none, .mv (.tmp 35)⟩] [] [4])
  (.ret)))))⟩
theorem pf8_ok : fnOk Try.prog 8 pf8 = true := by kernel_rfl

/-- slices.Compact[[]int,int] -/
def pf50 : PFn := ⟨61, 1, [.tmp 2], .seq
  (.reg [⟨some 2, none, .mv (.val (.list .nil 1 []))⟩] [] [0])
  (.seq
  (.seq
  (.reg [⟨some 6, none, .mv (.tmp 0)⟩,
    ⟨some 7, none, .len (.tmp 6)⟩,
    ⟨some 8, none, .bin .lss (.tmp 7) (.val (.int .i64 2))⟩] [] [0, 8])
  (.cond (.tmp 8)
  (.seq
  (.reg [⟨some 9, none, .mv (.tmp 0)⟩,
    ⟨some 2, none, .mv (.tmp 9)⟩] [] [2])
  (.ret))
  (.skip)))
  (.seq
  (.seq
  (.reg [⟨some 3, none, .mv (.val (.int .i64 1))⟩] [] [0, 3])
  (.blk 0 (.loop (.seq
  (.seq
  (.reg [⟨some 10, none, .mv (.tmp 3)⟩,
    ⟨some 11, none, .mv (.tmp 0)⟩,
    ⟨some 12, none, .len (.tmp 11)⟩,
    ⟨some 13, none, .bin .lss (.tmp 10) (.tmp 12)⟩] [] [0, 3, 13])
  (.cond (.tmp 13)
  (.skip)
  (.ext 0)))
  (.seq
  (.blk 1 (.seq
  (.reg [⟨some 16, none, .mv (.tmp 0)⟩,
    ⟨some 17, none, .mv (.tmp 3)⟩,
    ⟨some 18, none, .iaS 1 (.tmp 16) (.tmp 17)⟩,
    ⟨some 19, none, .ld none (.tmp 18)⟩,
    ⟨some 20, none, .mv (.tmp 0)⟩,
    ⟨some 21, none, .mv (.tmp 3)⟩,
    ⟨some 22, none, .bin .sub (.tmp 21) (.val (.int .i64 1))⟩,
    ⟨some 23, none, .iaS 1 (.tmp 20) (.tmp 22)⟩,
    ⟨some 24, none, .ld none (.tmp 23)⟩,
    ⟨some 25, none, .bin .eql (.tmp 19) (.tmp 24)⟩] [] [0, 3, 25])
  (.cond (.tmp 25)
  (.seq
  (.reg [⟨some 26, none, .mv (.tmp 0)⟩,
    ⟨some 27, none, .mv (.tmp 3)⟩,
    ⟨some 28, none, .slc 1 (.tmp 26) (some (.tmp 27)) none none⟩,
    ⟨some 4, none, .mv (.tmp 28)⟩] [] [0, 3, 4])
  (.seq
  (.seq
  (.reg [⟨some 5, none, .mv (.val (.int .i64 1))⟩] [] [0, 3, 4, 5])
  (.blk 2 (.loop (.seq
  (.seq
  (.reg [⟨some 29, none, .mv (.tmp 5)⟩,
    ⟨some 30, none, .mv (.tmp 4)⟩,
    ⟨some 31, none, .len (.tmp 30)⟩,
    ⟨some 32, none, .bin .lss (.tmp 29) (.tmp 31)⟩] [] [0, 3, 4, 5, 32])
  (.cond (.tmp 32)
  (.skip)
  (.ext 2)))
  (.seq
  (.blk 3 (.seq
  (.reg [⟨some 35, none, .mv (.tmp 4)⟩,
    ⟨some 36, none, .mv (.tmp 5)⟩,
    ⟨some 37, none, .iaS 1 (.tmp 35) (.tmp 36)⟩,
    ⟨some 38, none, .ld none (.tmp 37)⟩,
    ⟨some 39, none, .mv (.tmp 4)⟩,
    ⟨some 40, none, .mv (.tmp 5)⟩,
    ⟨some 41, none, .bin .sub (.tmp 40) (.val (.int .i64 1))⟩,
    ⟨some 42, none, .iaS 1 (.tmp 39) (.tmp 41)⟩,
    ⟨some 43, none, .ld none (.tmp 42)⟩,
    ⟨some 44, none, .bin .neq (.tmp 38) (.tmp 43)⟩] [] [0, 3, 4, 5, 44])
  (.cond (.tmp 44)
  (.seq
  (.reg [⟨some 45, none, .mv (.tmp 0)⟩,
    ⟨some 46, none, .mv (.tmp 3)⟩,
    ⟨some 47, none, .mv (.tmp 4)⟩,
    ⟨some 48, none, .mv (.tmp 5)⟩,
    ⟨some 49, none, .iaS 1 (.tmp 47) (.tmp 48)⟩,
    ⟨some 50, none, .ld none (.tmp 49)⟩,
    ⟨some 51, none, .iaS 1 (.tmp 45) (.tmp 46)⟩,
    ⟨none, none, .st 1 (.tmp 51) (.tmp 50)⟩] [] [0, 3, 4, 5])
  (.reg [⟨some 52, none, .mv (.tmp 3)⟩,
    ⟨some 53, none, .bin .add (.tmp 52) (.val (.int .i64 1))⟩,
    ⟨some 3, none, .mv (.tmp 53)⟩] [] [0, 3, 4, 5]))
  (.skip))))
  (.reg [⟨some 33, none, .mv (.tmp 5)⟩,
    ⟨some 34, none, .bin .add (.tmp 33) (.val (.int .i64 1))⟩,
    ⟨some 5, none, .mv (.tmp 34)⟩] [] [0, 3, 4, 5]))))))
  (.seq
  (.reg [⟨some 54, none, .mv (.tmp 0)⟩,
    ⟨some 55, none, .mv (.tmp 3)⟩,
    ⟨some 56, none, .slc 1 (.tmp 54) (some (.tmp 55)) none none⟩,
    ⟨none, none, .bad⟩] [] [0, 3])
  (.seq
  (.reg [⟨some 57, none, .mv (.tmp 0)⟩,
    ⟨some 58, none, .mv (.tmp 3)⟩,
    ⟨some 59, none, .slc 1 (.tmp 57) none (some (.tmp 58)) none⟩,
    ⟨some 2, none, .mv (.tmp 59)⟩] [] [2])
  (.ret)))))
  (.skip))))
  (.reg [⟨some 14, none, .mv (.tmp 3)⟩,
    ⟨some 15, none, .bin .add (.tmp 14) (.val (.int .i64 1))⟩,
    ⟨some 3, none, .mv (.tmp 15)⟩] [] [0, 3]))))))
  (.seq
  (.reg [⟨some 60, none, .mv (.tmp 0)⟩,
    ⟨some 2, none, .mv (.tmp 60)⟩] [] [2])
  (.ret))))⟩
theorem pf50_ok : fnOk Try.prog 50 pf50 = true := by kernel_rfl

/-- hinterland/hinterlandref05.Drop -/
def pf23 : PFn := ⟨58, 3, [.tmp 6, .tmp 7, .tmp 8], .seq
  (.reg [⟨some 3, none, .boxp 24 (.tmp 0)⟩,
    ⟨some 6, none, .mv (.val (.list .nil 1 []))⟩,
    ⟨some 7, none, .mv (.val (.int .i64 0))⟩,
    ⟨some 8, none, .mv (.val (.int .i64 0))⟩] [] [1, 2, 3])
  (.seq
  (.seq
  (.reg [⟨some 12, none, .ld (some 3) (.tmp 3)⟩,
    ⟨some 13, none, .mv (.tmp 1)⟩,
    ⟨some 14, none, .call 35 .pure [(.tmp 12), (.tmp 13)]⟩,
    ⟨some 9, none, .mv (.tmp 14)⟩] [] [1, 2, 3, 9])
  (.seq
  (.reg [⟨some 15, none, .mv (.tmp 9)⟩,
    ⟨some 16, none, .bin .neq (.tmp 15) (.val (.int .i64 0))⟩] [] [1, 2, 3, 9, 16])
  (.cond (.tmp 16)
  (.seq
  (.reg [⟨some 17, none, .mv (.tmp 9)⟩,
    ⟨some 6, none, .mv (.val (.list .nil 1 []))⟩,
    ⟨some 7, none, .mv (.val (.int .i64 0))⟩,
    ⟨some 8, none, .mv (.tmp 17)⟩] [] [6, 7, 8])
  (.ret))
  (.skip))))
  (.seq
  (.seq
  (.reg [⟨some 10, none, .mv (.val (.int .i64 0))⟩] [] [1, 2, 3, 10])
  (.blk 0 (.loop (.seq
  (.seq
  (.reg [⟨some 18, none, .mv (.tmp 10)⟩,
    ⟨some 19, none, .mv (.tmp 1)⟩,
    ⟨some 20, none, .len (.tmp 19)⟩,
    ⟨some 21, none, .bin .lss (.tmp 18) (.tmp 20)⟩] [] [1, 2, 3, 10, 21])
  (.cond (.tmp 21)
  (.skip)
  (.ext 0)))
  (.seq
  (.blk 1 (.seq
  (.reg [⟨some 24, none, .mv (.tmp 1)⟩,
    ⟨some 25, none, .mv (.tmp 10)⟩,
    ⟨some 26, none, .iaS 4 (.tmp 24) (.tmp 25)⟩,
    ⟨some 27, none, .faddr 1 (.tmp 26)⟩,
    ⟨some 28, none, .ld none (.tmp 27)⟩,
    ⟨some 29, none, .mv (.tmp 2)⟩,
    ⟨some 30, none, .bin .eql (.tmp 28) (.tmp 29)⟩,
    ⟨some 31, none, .mv (.tmp 30)⟩,
    ⟨some 32, (some (31, false)), .mv (.tmp 1)⟩,
    ⟨some 33, (some (31, false)), .mv (.tmp 10)⟩,
    ⟨some 34, (some (31, false)), .iaS 4 (.tmp 32) (.tmp 33)⟩,
    ⟨some 35, (some (31, false)), .faddr 2 (.tmp 34)⟩,
    ⟨some 36, (some (31, false)), .ld none (.tmp 35)⟩,
    ⟨some 37, (some (31, false)), .mv (.tmp 2)⟩,
    ⟨some 38, (some (31, false)), .bin .eql (.tmp 36) (.tmp 37)⟩,
    ⟨some 39, none, .pick (.tmp 31) (.val (.bool true)) (.tmp 38)⟩] [] [1, 2, 3, 10, 39])
  (.cond (.tmp 39)
  (.seq
  (.reg [⟨some 40, none, .bsl 0 4 [(.int .i64 0), (.int .i64 0), (.int .i64 0), (.int .i64 0)] []⟩,
    ⟨some 41, none, .mv (.tmp 1)⟩,
    ⟨some 42, none, .mv (.tmp 10)⟩,
    ⟨some 43, none, .slc 4 (.tmp 41) none (some (.tmp 42)) none⟩,
    ⟨some 44, none, .app 26 4 32 (.tmp 40) (.tmp 43)⟩,
    ⟨some 11, none, .mv (.tmp 44)⟩] [] [1, 3, 10, 11])
  (.seq
  (.reg [⟨some 45, none, .mv (.tmp 11)⟩,
    ⟨some 46, none, .mv (.tmp 1)⟩,
    ⟨some 47, none, .mv (.tmp 10)⟩,
    ⟨some 48, none, .bin .add (.tmp 47) (.val (.int .i64 1))⟩,
    ⟨some 49, none, .slc 4 (.tmp 46) (some (.tmp 48)) none none⟩,
    ⟨some 50, none, .app 26 4 32 (.tmp 45) (.tmp 49)⟩,
    ⟨some 51, none, .ld (some 3) (.tmp 3)⟩,
    ⟨some 52, none, .mv (.tmp 1)⟩,
    ⟨some 53, none, .mv (.tmp 10)⟩,
    ⟨some 54, none, .iaS 4 (.tmp 52) (.tmp 53)⟩,
    ⟨some 55, none, .ld (some 4) (.tmp 54)⟩,
    ⟨some 56, none, .call 33 .pure [(.tmp 51), (.tmp 55)]⟩,
    ⟨some 57, none, .bin .quo (.tmp 56) (.val (.int .i64 4))⟩,
    ⟨some 6, none, .mv (.tmp 50)⟩,
    ⟨some 7, none, .mv (.tmp 57)⟩,
    ⟨some 8, none, .mv (.val (.int .i64 0))⟩] [(6, 5), (6, 6), (10, 5), (10, 6)] [6, 7, 8])
  (.ret)))
  (.skip))))
  (.reg [⟨some 22, none, .mv (.tmp 10)⟩,
    ⟨some 23, none, .bin .add (.tmp 22) (.val (.int .i64 1))⟩,
    ⟨some 10, none, .mv (.tmp 23)⟩] [] [1, 2, 3, 10]))))))
  (.seq
  (.reg [⟨some 6, none, .mv (.val (.list .nil 1 []))⟩,
    ⟨some 7, none, .mv (.val (.int .i64 0))⟩,
    ⟨some 8, none, .mv (.val (.int .i64 2))⟩] [] [6, 7, 8])
  (.ret))))⟩
theorem pf23_ok : fnOk Try.prog 23 pf23 = true := by kernel_rfl

/-- slices.IndexFunc[[]hinterland/api.Span,hinterland/api.Span] -/
def pf62 : PFn := ⟨19, 2, [.tmp 4], .seq
  (.reg [⟨some 4, none, .mv (.val (.int .i64 0))⟩] [] [0, 1])
  (.seq
  (.seq
  (.reg [⟨some 6, none, .mv (.tmp 0)⟩,
    ⟨some 7, none, .len (.tmp 6)⟩,
    ⟨some 8, none, .mv (.val (.int .i64 0))⟩] [] [0, 1, 7, 8])
  (.blk 0 (.loop (.seq
  (.reg [⟨some 9, none, .bin .lss (.tmp 8) (.tmp 7)⟩] [] [0, 1, 7, 8, 9])
  (.seq
  (.cond (.tmp 9)
  (.skip)
  (.ext 0))
  (.seq
  (.blk 1 (.seq
  (.reg [⟨some 10, none, .mv (.tmp 8)⟩,
    ⟨some 5, none, .mv (.tmp 10)⟩] [] [0, 1, 5, 7, 8])
  (.seq
  (.reg [⟨some 11, none, .mv (.tmp 1)⟩,
    ⟨some 12, none, .mv (.tmp 0)⟩,
    ⟨some 13, none, .mv (.tmp 5)⟩,
    ⟨some 14, none, .iaS 4 (.tmp 12) (.tmp 13)⟩,
    ⟨some 15, none, .ld (some 4) (.tmp 14)⟩,
    ⟨some 16, none, .callv (.tmp 11) .pure [(.tmp 15)]⟩] [] [0, 1, 5, 7, 8, 16])
  (.cond (.tmp 16)
  (.seq
  (.reg [⟨some 17, none, .mv (.tmp 5)⟩,
    ⟨some 4, none, .mv (.tmp 17)⟩] [] [4])
  (.ret))
  (.skip)))))
  (.reg [⟨some 18, none, .bin .add (.tmp 8) (.val (.int .i64 1))⟩,
    ⟨some 8, none, .mv (.tmp 18)⟩] [] [0, 1, 7, 8])))))))
  (.seq
  (.reg [⟨some 4, none, .mv (.val (.int .i64 (-1)))⟩] [] [4])
  (.ret)))⟩
theorem pf62_ok : fnOk Try.prog 62 pf62 = true := by kernel_rfl

/-- hinterland/span.head -/
def pf44 : PFn := ⟨8, 2, [.tmp 4], .seq
  (.reg [⟨some 3, none, .boxp 3 (.tmp 1)⟩,
    ⟨some 4, none, .mv (.val (.int .i64 0))⟩] [] [0, 3])
  (.seq
  (.reg [⟨some 5, none, .mv (.tmp 0)⟩,
    ⟨some 6, none, .mkf (.func 63) [] [(.tmp 3)]⟩,
    ⟨some 7, none, .call 62 .pure [(.tmp 5), (.tmp 6)]⟩,
    ⟨some 4, none, .mv (.tmp 7)⟩] [] [4])
  (.ret))⟩
theorem pf44_ok : fnOk Try.prog 44 pf44 = true := by kernel_rfl

/-- slices.Delete[[]hinterland/api.Span,hinterland/api.Span] -/
def pf45 : PFn := ⟨33, 3, [.tmp 6], .seq
  (.reg [⟨some 6, none, .mv (.val (.list .nil 1 []))⟩] [] [0, 1, 2])
  (.seq
  (.reg [⟨some 8, none, .mv (.tmp 0)⟩,
    ⟨some 9, none, .mv (.tmp 1)⟩,
    ⟨some 10, none, .mv (.tmp 2)⟩,
    ⟨some 11, none, .mv (.tmp 0)⟩,
    ⟨some 12, none, .len (.tmp 11)⟩,
    ⟨some 13, none, .slc 4 (.tmp 8) (some (.tmp 9)) (some (.tmp 10)) (some (.tmp 12))⟩] [] [0, 1, 2])
  (.seq
  (.seq
  (.reg [⟨some 14, none, .mv (.tmp 1)⟩,
    ⟨some 15, none, .mv (.tmp 2)⟩,
    ⟨some 16, none, .bin .eql (.tmp 14) (.tmp 15)⟩] [] [0, 1, 2, 16])
  (.cond (.tmp 16)
  (.seq
  (.reg [⟨some 17, none, .mv (.tmp 0)⟩,
    ⟨some 6, none, .mv (.tmp 17)⟩] [] [6])
  (.ret))
  (.skip)))
  (.seq
  (.reg [⟨some 18, none, .mv (.tmp 0)⟩,
    ⟨some 19, none, .len (.tmp 18)⟩,
    ⟨some 7, none, .mv (.tmp 19)⟩] [] [0, 1, 2, 7])
  (.seq
  (.reg [⟨some 20, none, .mv (.tmp 0)⟩,
    ⟨some 21, none, .mv (.tmp 1)⟩,
    ⟨some 22, none, .slc 4 (.tmp 20) none (some (.tmp 21)) none⟩,
    ⟨some 23, none, .mv (.tmp 0)⟩,
    ⟨some 24, none, .mv (.tmp 2)⟩,
    ⟨some 25, none, .slc 4 (.tmp 23) (some (.tmp 24)) none none⟩,
    ⟨some 26, none, .app 26 4 32 (.tmp 22) (.tmp 25)⟩,
    ⟨some 0, none, .mv (.tmp 26)⟩] [] [0, 7])
  (.seq
  (.reg [⟨some 27, none, .mv (.tmp 0)⟩,
    ⟨some 28, none, .mv (.tmp 0)⟩,
    ⟨some 29, none, .len (.tmp 28)⟩,
    ⟨some 30, none, .mv (.tmp 7)⟩,
    ⟨some 31, none, .slc 4 (.tmp 27) (some (.tmp 29)) (some (.tmp 30)) none⟩,
    ⟨none, none, .bad⟩] [] [0])
  (.seq
  (.reg [⟨some 32, none, .mv (.tmp 0)⟩,
    ⟨some 6, none, .mv (.tmp 32)⟩] [] [6])
  (.ret)))))))⟩
theorem pf45_ok : fnOk Try.prog 45 pf45 = true := by kernel_rfl

/-- slices.Clone[[]hinterland/api.Span,hinterland/api.Span] -/
def pf46 : PFn := ⟨8, 1, [.tmp 2], .seq
  (.reg [⟨some 2, none, .mv (.val (.list .nil 1 []))⟩] [] [0])
  (.seq
  (.seq
  (.reg [⟨some 3, none, .mv (.tmp 0)⟩,
    ⟨some 4, none, .eqn false (.tmp 3) (.val (.list .nil 1 []))⟩] [] [0, 4])
  (.cond (.tmp 4)
  (.seq
  (.reg [⟨some 2, none, .mv (.val (.list .nil 1 []))⟩] [] [2])
  (.ret))
  (.skip)))
  (.seq
  (.reg [⟨some 5, none, .bsl 0 4 [(.int .i64 0), (.int .i64 0), (.int .i64 0), (.int .i64 0)] []⟩,
    ⟨some 6, none, .mv (.tmp 0)⟩,
    ⟨some 7, none, .app 26 4 32 (.tmp 5) (.tmp 6)⟩,
    ⟨some 2, none, .mv (.tmp 7)⟩] [] [2])
  (.ret)))⟩
theorem pf46_ok : fnOk Try.prog 46 pf46 = true := by kernel_rfl

/-- hinterland/span.Drop -/
def pf24 : PFn := ⟨35, 3, [.tmp 6, .tmp 7, .tmp 8], .seq
  (.reg [⟨some 3, none, .boxp 24 (.tmp 0)⟩,
    ⟨some 6, none, .mv (.val (.list .nil 1 []))⟩,
    ⟨some 7, none, .mv (.val (.int .i64 0))⟩,
    ⟨some 8, none, .mv (.val (.int .i64 0))⟩] [] [1, 2, 3])
  (.seq
  (.seq
  (.reg [⟨some 11, none, .ld (some 3) (.tmp 3)⟩,
    ⟨some 12, none, .mv (.tmp 1)⟩,
    ⟨some 13, none, .call 38 .pure [(.tmp 11), (.tmp 12)]⟩,
    ⟨some 9, none, .mv (.tmp 13)⟩] [] [1, 2, 3, 9])
  (.seq
  (.reg [⟨some 14, none, .mv (.tmp 9)⟩,
    ⟨some 15, none, .bin .neq (.tmp 14) (.val (.int .i64 0))⟩] [] [1, 2, 3, 9, 15])
  (.cond (.tmp 15)
  (.seq
  (.reg [⟨some 16, none, .mv (.tmp 9)⟩,
    ⟨some 6, none, .mv (.val (.list .nil 1 []))⟩,
    ⟨some 7, none, .mv (.val (.int .i64 0))⟩,
    ⟨some 8, none, .mv (.tmp 16)⟩] [] [6, 7, 8])
  (.ret))
  (.skip))))
  (.seq
  (.reg [⟨some 17, none, .mv (.tmp 1)⟩,
    ⟨some 18, none, .mv (.tmp 2)⟩,
    ⟨some 19, none, .call 44 .pure [(.tmp 17), (.tmp 18)]⟩,
    ⟨some 10, none, .mv (.tmp 19)⟩] [] [1, 3, 10])
  (.seq
  (.seq
  (.reg [⟨some 20, none, .mv (.tmp 10)⟩,
    ⟨some 21, none, .bin .lss (.tmp 20) (.val (.int .i64 0))⟩] [] [1, 3, 10, 21])
  (.cond (.tmp 21)
  (.seq
  (.reg [⟨some 6, none, .mv (.val (.list .nil 1 []))⟩,
    ⟨some 7, none, .mv (.val (.int .i64 0))⟩,
    ⟨some 8, none, .mv (.val (.int .i64 2))⟩] [] [6, 7, 8])
  (.ret))
  (.skip)))
  (.seq
  (.reg [⟨some 22, none, .mv (.tmp 1)⟩,
    ⟨some 23, none, .call 46 .pure [(.tmp 22)]⟩,
    ⟨some 24, none, .mv (.tmp 10)⟩,
    ⟨some 25, none, .mv (.tmp 10)⟩,
    ⟨some 26, none, .bin .add (.tmp 25) (.val (.int .i64 1))⟩,
    ⟨some 27, none, .call 45 .opn [(.tmp 23), (.tmp 24), (.tmp 26)]⟩,
    ⟨some 28, none, .ld (some 3) (.tmp 3)⟩,
    ⟨some 29, none, .mv (.tmp 1)⟩,
    ⟨some 30, none, .mv (.tmp 10)⟩,
    ⟨some 31, none, .iaS 4 (.tmp 29) (.tmp 30)⟩,
    ⟨some 32, none, .ld (some 4) (.tmp 31)⟩,
    ⟨some 33, none, .call 34 .pure [(.tmp 28), (.tmp 32)]⟩,
    ⟨some 34, none, .bin .quo (.tmp 33) (.val (.int .i64 4))⟩,
    ⟨some 6, none, .mv (.tmp 27)⟩,
    ⟨some 7, none, .mv (.tmp 34)⟩,
    ⟨some 8, none, .mv (.val (.int .i64 0))⟩] [(6, 5), (6, 6), (10, 5), (10, 6)] [6, 7, 8])
  (.ret)))))⟩
theorem pf24_ok : fnOk Try.prog 24 pf24 = true := by kernel_rfl

/-- hinterland/hinterlandlaw05.SpanDrops -/
def pf7 : PFn := ⟨49, 3, [.tmp 6], .seq
  (.reg [⟨some 3, none, .boxp 24 (.tmp 0)⟩,
    ⟨some 6, none, .mv (.val (.bool false))⟩] [] [1, 2, 3])
  (.seq
  (.seq
  (.reg [⟨some 13, none, .ld (some 3) (.tmp 3)⟩,
    ⟨some 14, none, .mv (.tmp 1)⟩,
    ⟨some 15, none, .call 12 .pure [(.tmp 13), (.tmp 14)]⟩] [] [1, 2, 3, 15])
  (.cond (.tmp 15)
  (.seq
  (.reg [⟨some 16, none, .call 13 .pure []⟩,
    ⟨some 6, none, .mv (.tmp 16)⟩] [] [6])
  (.ret))
  (.skip)))
  (.seq
  (.reg [⟨some 18, none, .ld (some 3) (.tmp 3)⟩,
    ⟨some 19, none, .mv (.tmp 1)⟩,
    ⟨some 20, none, .mv (.tmp 2)⟩,
    ⟨some 21, none, .call 23 .pure [(.tmp 18), (.tmp 19), (.tmp 20)]⟩,
    ⟨some 17, none, .mv (.tmp 21)⟩,
    ⟨some 22, none, .ext 0 (.tmp 17)⟩,
    ⟨some 23, none, .ext 1 (.tmp 17)⟩,
    ⟨some 24, none, .ext 2 (.tmp 17)⟩,
    ⟨some 7, none, .mv (.tmp 22)⟩,
    ⟨some 8, none, .mv (.tmp 23)⟩,
    ⟨some 9, none, .mv (.tmp 24)⟩] [] [1, 2, 3, 7, 8, 9])
  (.seq
  (.reg [⟨some 26, none, .ld (some 3) (.tmp 3)⟩,
    ⟨some 27, none, .mv (.tmp 1)⟩,
    ⟨some 28, none, .mv (.tmp 2)⟩,
    ⟨some 29, none, .call 24 .pure [(.tmp 26), (.tmp 27), (.tmp 28)]⟩,
    ⟨some 25, none, .mv (.tmp 29)⟩,
    ⟨some 30, none, .ext 0 (.tmp 25)⟩,
    ⟨some 31, none, .ext 1 (.tmp 25)⟩,
    ⟨some 32, none, .ext 2 (.tmp 25)⟩,
    ⟨some 10, none, .mv (.tmp 30)⟩,
    ⟨some 11, none, .mv (.tmp 31)⟩,
    ⟨some 12, none, .mv (.tmp 32)⟩] [] [7, 8, 9, 10, 11, 12])
  (.seq
  (.reg [⟨some 33, none, .mv (.tmp 12)⟩,
    ⟨some 34, none, .mv (.tmp 9)⟩,
    ⟨some 35, none, .bin .eql (.tmp 33) (.tmp 34)⟩,
    ⟨some 36, none, .mv (.tmp 35)⟩,
    ⟨some 37, (some (36, true)), .mv (.tmp 11)⟩,
    ⟨some 38, (some (36, true)), .mv (.tmp 8)⟩,
    ⟨some 39, (some (36, true)), .bin .eql (.tmp 37) (.tmp 38)⟩,
    ⟨some 40, none, .pick (.tmp 36) (.tmp 39) (.val (.bool false))⟩,
    ⟨some 41, none, .mv (.tmp 40)⟩,
    ⟨some 42, (some (41, true)), .mv (.tmp 10)⟩,
    ⟨some 43, (some (41, true)), .mv (.tmp 7)⟩,
    ⟨some 44, (some (41, true)), .call 22 .pure [(.tmp 42), (.tmp 43)]⟩,
    ⟨some 45, none, .pick (.tmp 41) (.tmp 44) (.val (.bool false))⟩,
    ⟨some 46, none, .mv (.tmp 45)⟩,
    ⟨some 47, (some (46, true)), .call 13 .pure []⟩,
    ⟨some 48, none, .pick (.tmp 46) (.tmp 47) (.val (.bool false))⟩,
    ⟨some 6, none, .mv (.tmp 48)⟩] [] [6])
  (.ret)))))⟩
theorem pf7_ok : fnOk Try.prog 7 pf7 = true := by kernel_rfl

end Go.Proofs.Ytpnhdcjfhlcgoaa
