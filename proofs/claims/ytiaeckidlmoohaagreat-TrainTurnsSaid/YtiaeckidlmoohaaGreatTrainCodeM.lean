/- PCode of functions, written by wip/tools/gen.py out of the loaded functions' print. -/
import Derived.Test.YtiaeckidlmoohaaGreatPmTwentyFive
import Derived.Test.YtiaeckidlmoohaaGreatPmTwentySeven
import Derived.Test.YtiaeckidlmoohaaGreatProg
import Derived.KernelRfl
import Derived.Test.YtiaeckidlmoohaaGreatTrainAbb
set_option maxRecDepth 100000
namespace Go.Proofs.YtiaeckidlmoohaaGreat
open Go.Proofs.YtiaeckidlmoohaaGreat.PM

/-- hinterland/hinterlandlaw16.TrainValidates -/
def pf3 : PFn := ⟨14, 1, [.tmp 2], .seq
(.reg [aO 1 (.boxp 30 (aT 0)),
aO 2 (.mv (.val (.bool false)))] [] [1])
(.seq
(.seq
(.reg [aN 3 7 1,
aO 4 (.call 19 .pure [(aT 3), (.val (.list .nil 1 []))])] [] [1, 4])
(.cond (aT 4)
(.seq
(.reg [aO 5 (.call 20 .pure []),
aM 2 5] [] [2])
(.ret))
(.skip)))
(.seq
(.reg [aN 6 7 1,
aO 7 (.call 21 .pure [(aT 6)]),
aN 8 7 1,
aO 9 (.call 22 .pure [(aT 8)]),
aO 10 (.bin .eql (aT 7) (aT 9)),
aM 11 10,
bO 12 11 true (.call 20 .pure []),
aO 13 (.pick (aT 11) (aT 12) (.val (.bool false))),
aM 2 13] [] [2])
(.ret)))⟩
theorem pf3_ok : fnOk Tryz.prog 3 pf3 = true := by kernel_rfl

/-- hinterland/hinterlandlaw16.TrainSafes -/
def pf4 : PFn := ⟨31, 1, [.tmp 2], .seq
(.reg [aO 1 (.boxp 30 (aT 0)),
aO 2 (.mv (.val (.bool false)))] [] [1])
(.seq
(.seq
(.reg [aN 7 7 1,
aO 8 (.call 19 .pure [(aT 7), (.val (.list .nil 1 []))])] [] [1, 8])
(.cond (aT 8)
(.seq
(.reg [aO 9 (.call 20 .pure []),
aM 2 9] [] [2])
(.ret))
(.skip)))
(.seq
(.reg [aN 11 7 1,
aO 12 (.call 23 .pure [(aT 11)]),
aM 10 12,
aO 13 (.ext 0 (aT 10)),
aO 14 (.ext 1 (aT 10)),
aM 3 13,
aM 4 14] [] [1, 3, 4])
(.seq
(.reg [aN 16 7 1,
aO 17 (.call 24 .pure [(aT 16)]),
aM 15 17,
aO 18 (.ext 0 (aT 15)),
aO 19 (.ext 1 (aT 15)),
aM 5 18,
aM 6 19] [] [3, 4, 5, 6])
(.seq
(.reg [aM 20 3,
aM 21 5,
aO 22 (.eqb false (aT 20) (aT 21)),
aM 23 22,
bM 24 23 true 4,
bM 25 23 true 6,
bO 26 23 true (.bin .eql (aT 24) (aT 25)),
aO 27 (.pick (aT 23) (aT 26) (.val (.bool false))),
aM 28 27,
bO 29 28 true (.call 20 .pure []),
aO 30 (.pick (aT 28) (aT 29) (.val (.bool false))),
aM 2 30] [] [2])
(.ret)))))⟩
theorem pf4_ok : fnOk Tryz.prog 4 pf4 = true := by kernel_rfl

/-- hinterland/hinterlandlaw16.TrainLeaves -/
def pf9 : PFn := ⟨35, 2, [.tmp 4], .seq
(.reg [aO 2 (.boxp 30 (aT 0)),
aO 4 (.mv (.val (.bool false)))] [] [1, 2])
(.seq
(.seq
(.reg [aN 9 7 2,
aO 10 (.call 19 .pure [(aT 9), (.val (.list .nil 1 []))])] [] [1, 2, 10])
(.cond (aT 10)
(.seq
(.reg [aO 11 (.call 20 .pure []),
aM 4 11] [] [4])
(.ret))
(.skip)))
(.seq
(.reg [aN 13 7 2,
aM 14 1,
aO 15 (.call 34 .pure [(aT 13), (aT 14)]),
aM 12 15,
aO 16 (.ext 0 (aT 12)),
aO 17 (.ext 1 (aT 12)),
aO 5 (.zer 30 (.agg [(.int .i64 0), (.int .i64 0), (.list .nil 1 []), (.list .nil 1 []), (.list .nil 4 []), (.list .nil 6 []), (.list .nil 5 [])])),
aZ (.st 7 (aT 5) (aT 16)),
aM 6 17] [] [1, 2, 5, 6])
(.seq
(.reg [aN 19 7 2,
aM 20 1,
aO 21 (.call 35 .pure [(aT 19), (aT 20)]),
aM 18 21,
aO 22 (.ext 0 (aT 18)),
aO 23 (.ext 1 (aT 18)),
aO 7 (.zer 30 (.agg [(.int .i64 0), (.int .i64 0), (.list .nil 1 []), (.list .nil 1 []), (.list .nil 4 []), (.list .nil 6 []), (.list .nil 5 [])])),
aZ (.st 7 (aT 7) (aT 22)),
aM 8 23] [] [5, 6, 7, 8])
(.seq
(.reg [aM 24 6,
aM 25 8,
aO 26 (.bin .eql (aT 24) (aT 25)),
aM 27 26,
bN 28 27 true 7 5,
bN 29 27 true 7 7,
bO 30 27 true (.call 27 .pure [(aT 28), (aT 29)]),
aO 31 (.pick (aT 27) (aT 30) (.val (.bool false))),
aM 32 31,
bO 33 32 true (.call 20 .pure []),
aO 34 (.pick (aT 32) (aT 33) (.val (.bool false))),
aM 4 34] [] [4])
(.ret)))))⟩
theorem pf9_ok : fnOk Tryz.prog 9 pf9 = true := by kernel_rfl

/-- hinterland/hinterlandlaw16.TrainFrees -/
def pf11 : PFn := ⟨39, 3, [.tmp 6], .seq
(.reg [aO 3 (.boxp 30 (aT 0)),
aO 5 (.boxp 54 (aT 2)),
aO 6 (.mv (.val (.bool false)))] [] [1, 3, 5])
(.seq
(.seq
(.reg [aN 11 7 3,
aO 12 (.call 19 .pure [(aT 11), (.val (.list .nil 1 []))])] [] [1, 3, 5, 12])
(.cond (aT 12)
(.seq
(.reg [aO 13 (.call 20 .pure []),
aM 6 13] [] [6])
(.ret))
(.skip)))
(.seq
(.reg [aN 15 7 3,
aM 16 1,
aN 17 3 5,
aO 18 (.call 39 .pure [(aT 15), (aT 16), (aT 17)]),
aM 14 18,
aO 19 (.ext 0 (aT 14)),
aO 20 (.ext 1 (aT 14)),
aM 7 19,
aM 8 20] [] [1, 3, 5, 7, 8])
(.seq
(.reg [aN 22 7 3,
aM 23 1,
aN 24 3 5,
aO 25 (.call 40 .pure [(aT 22), (aT 23), (aT 24)]),
aM 21 25,
aO 26 (.ext 0 (aT 21)),
aO 27 (.ext 1 (aT 21)),
aM 9 26,
aM 10 27] [] [7, 8, 9, 10])
(.seq
(.reg [aM 28 7,
aM 29 9,
aO 30 (.eqb false (aT 28) (aT 29)),
aM 31 30,
bM 32 31 true 8,
bM 33 31 true 10,
bO 34 31 true (.bin .eql (aT 32) (aT 33)),
aO 35 (.pick (aT 31) (aT 34) (.val (.bool false))),
aM 36 35,
bO 37 36 true (.call 20 .pure []),
aO 38 (.pick (aT 36) (aT 37) (.val (.bool false))),
aM 6 38] [] [6])
(.ret)))))⟩
theorem pf11_ok : fnOk Tryz.prog 11 pf11 = true := by kernel_rfl

/-- hinterland/hinterlandlaw16.TrainTurns -/
def pf16 : PFn := ⟨75, 2, [.tmp 4], .seq
(.reg [aO 2 (.boxp 30 (aT 0)),
aO 4 (.mv (.val (.bool false)))] [] [1, 2])
(.seq
(.seq
(.reg [aN 11 7 2,
aO 12 (.call 19 .pure [(aT 11), (.val (.list .nil 1 []))])] [] [1, 2, 12])
(.cond (aT 12)
(.seq
(.reg [aO 13 (.call 20 .pure []),
aM 4 13] [] [4])
(.ret))
(.skip)))
(.seq
(.reg [aN 15 7 2,
aM 16 1,
aO 17 (.call 47 .pure [(aT 15), (aT 16)]),
aM 14 17,
aO 18 (.ext 0 (aT 14)),
aO 19 (.ext 1 (aT 14)),
aO 5 (.zer 30 (.agg [(.int .i64 0), (.int .i64 0), (.list .nil 1 []), (.list .nil 1 []), (.list .nil 4 []), (.list .nil 6 []), (.list .nil 5 [])])),
aZ (.st 7 (aT 5) (aT 18)),
aM 6 19] [] [1, 2, 5, 6])
(.seq
(.reg [aN 21 7 2,
aM 22 1,
aO 23 (.call 48 .pure [(aT 21), (aT 22)]),
aM 20 23,
aO 24 (.ext 0 (aT 20)),
aO 25 (.ext 1 (aT 20)),
aO 7 (.zer 30 (.agg [(.int .i64 0), (.int .i64 0), (.list .nil 1 []), (.list .nil 1 []), (.list .nil 4 []), (.list .nil 6 []), (.list .nil 5 [])])),
aZ (.st 7 (aT 7) (aT 24)),
aM 8 25] [] [1, 2, 5, 6, 7, 8])
(.seq
(.seq
(.reg [aM 26 6,
aM 27 8,
aO 28 (.bin .neq (aT 26) (aT 27)),
aM 29 28,
bN 30 29 false 7 5,
bN 31 29 false 7 7,
bO 32 29 false (.call 27 .pure [(aT 30), (aT 31)]),
bO 33 29 false (.un .not (aT 32)),
aO 34 (.pick (aT 29) (.val (.bool true)) (aT 33))] [] [1, 2, 5, 6, 34])
(.cond (aT 34)
(.seq
(.reg [aO 4 (.mv (.val (.bool false)))] [] [4])
(.ret))
(.skip)))
(.seq
(.reg [aN 36 7 5,
aM 37 1,
aO 38 (.call 47 .pure [(aT 36), (aT 37)]),
aM 35 38,
aO 39 (.ext 0 (aT 35)),
aO 40 (.ext 1 (aT 35)),
aO 9 (.zer 30 (.agg [(.int .i64 0), (.int .i64 0), (.list .nil 1 []), (.list .nil 1 []), (.list .nil 4 []), (.list .nil 6 []), (.list .nil 5 [])])),
aZ (.st 7 (aT 9) (aT 39)),
aM 10 40] [] [1, 2, 6, 9, 10])
(.seq
(.reg [aM 41 6,
aO 42 (.bin .neq (aT 41) (.val (.int .i64 0))),
aM 43 42,
bM 44 43 false 10,
bO 45 43 false (.bin .eql (aT 44) (.val (.int .i64 0))),
bM 46 43 false 45,
bF 47 46 true 6 9,
bL 48 46 true 47,
bM 49 46 true 1,
bO 50 46 true (.iaS 5 (aT 48) (aT 49)),
bF 51 46 true 3 50,
bL 52 46 true 51,
bF 53 46 true 6 2,
bL 54 46 true 53,
bM 55 46 true 1,
bO 56 46 true (.iaS 5 (aT 54) (aT 55)),
bF 57 46 true 3 56,
bL 58 46 true 57,
bO 59 46 true (.call 38 .pure [(aT 52), (aT 58)]),
bO 60 43 false (.pick (aT 46) (aT 59) (.val (.bool false))),
bM 61 43 false 60,
bF 62 61 true 6 9,
bL 63 61 true 62,
bM 64 61 true 1,
bO 65 61 true (.iaS 5 (aT 63) (aT 64)),
bF 66 61 true 4 65,
bL 67 61 true 66,
bO 68 61 true (.len (aT 67)),
bO 69 61 true (.bin .eql (aT 68) (.val (.int .i64 0))),
bO 70 43 false (.pick (aT 61) (aT 69) (.val (.bool false))),
aO 71 (.pick (aT 43) (.val (.bool true)) (aT 70)),
aM 72 71,
bO 73 72 true (.call 20 .pure []),
aO 74 (.pick (aT 72) (aT 73) (.val (.bool false))),
aM 4 74] [] [4])
(.ret)))))))⟩
theorem pf16_ok : fnOk Tryz.prog 16 pf16 = true := by kernel_rfl

/-- hinterland/hinterlandlaw16.large -/
def pf19 : PFn := ⟨57, 2, [.tmp 4], .seq
(.reg [aO 2 (.boxp 30 (aT 0)),
aO 4 (.mv (.val (.bool false)))] [] [1, 2])
(.seq
(.reg [aF 10 0 2,
aF 11 2 10,
aL 12 11,
aO 13 (.len (aT 12)),
aF 14 0 2,
aF 15 3 14,
aL 16 15,
aO 17 (.len (aT 16)),
aF 18 4 2,
aL 19 18,
aO 20 (.len (aT 19)),
aF 21 5 2,
aL 22 21,
aO 23 (.len (aT 22)),
aF 24 6 2,
aL 25 24,
aO 26 (.len (aT 25)),
aO 27 (.mx (aT 13) [(aT 17), (aT 20), (aT 23), (aT 26)]),
aM 5 27] [] [1, 2, 5])
(.seq
(.seq
(.reg [aF 28 6 2,
aL 29 28,
aO 30 (.len (aT 29)),
aO 31 (.mv (.val (.int .i64 0)))] [] [1, 5, 29, 30, 31])
(.blk 0 (.loop (.trim (.seq
(.reg [aO 32 (.bin .lss (aT 31) (aT 30))] [] [1, 5, 29, 30, 31, 32])
(.seq
(.cond (aT 32)
(.skip)
(.ext 0))
(.seq
(.blk 1 (.seq
(.reg [aI 33 5 29 31,
aN 34 5 33,
aO 7 (.zer 68 (.agg [(.int .i64 0), (.int .i64 0), (.int .i64 0), (.list .nil 3 []), (.list .nil 3 [])])),
aZ (.st 5 (aT 7) (aT 34))] [] [1, 5, 7, 29, 30, 31])
(.reg [aM 35 5,
aF 36 3 7,
aL 37 36,
aO 38 (.len (aT 37)),
aF 39 4 7,
aL 40 39,
aO 41 (.len (aT 40)),
aO 42 (.mx (aT 35) [(aT 38), (aT 41)]),
aM 5 42] [] [1, 5, 29, 30, 31])))
(.reg [aO 43 (.bin .add (aT 31) (.val (.int .i64 1))),
aM 31 43] [] [1, 5, 29, 30, 31]))))))))
(.seq
(.seq
(.reg [aM 44 1,
aO 45 (.len (aT 44)),
aO 46 (.mv (.val (.int .i64 0)))] [] [5, 44, 45, 46])
(.blk 2 (.loop (.seq
(.reg [aO 47 (.bin .lss (aT 46) (aT 45))] [] [5, 44, 45, 46, 47])
(.seq
(.cond (aT 47)
(.skip)
(.ext 2))
(.seq
(.blk 3 (.seq
(.reg [aI 48 1 44 46,
aL 49 48,
aM 9 49] [] [5, 9, 44, 45, 46])
(.reg [aM 50 5,
aM 51 9,
aO 52 (.len (aT 51)),
aO 53 (.mx (aT 50) [(aT 52)]),
aM 5 53] [] [5, 44, 45, 46])))
(.reg [aO 54 (.bin .add (aT 46) (.val (.int .i64 1))),
aM 46 54] [] [5, 44, 45, 46])))))))
(.seq
(.reg [aM 55 5,
aO 56 (.bin .gtr (aT 55) (.val (.int .i64 1100))),
aM 4 56] [] [4])
(.ret)))))⟩
theorem pf19_ok : fnOk Tryz.prog 19 pf19 = true := by kernel_rfl

/-- hinterland/hinterlandref16.Validate -/
def pf22 : PFn := ⟨149, 1, [.tmp 2], .seq
(.reg [aO 1 (.boxp 30 (aT 0)),
aO 2 (.mv (.val (.int .i64 0)))] [] [1])
(.seq
(.seq
(.reg [aF 15 0 1,
aN 16 4 15,
aO 17 (.call 62 .pure [(aT 16)]),
aM 3 17] [] [1, 3])
(.seq
(.reg [aM 18 3,
aO 19 (.bin .neq (aT 18) (.val (.int .i64 0)))] [] [1, 3, 19])
(.cond (aT 19)
(.seq
(.reg [aM 20 3,
aM 2 20] [] [2])
(.ret))
(.skip))))
(.seq
(.seq
(.reg [aF 21 0 1,
aN 22 4 21,
aF 23 4 1,
aL 24 23,
aO 25 (.call 63 .pure [(aT 22), (aT 24)]),
aM 4 25] [] [1, 4])
(.seq
(.reg [aM 26 4,
aO 27 (.bin .neq (aT 26) (.val (.int .i64 0)))] [] [1, 4, 27])
(.cond (aT 27)
(.seq
(.reg [aM 28 4,
aM 2 28] [] [2])
(.ret))
(.skip))))
(.seq
(.seq
(.reg [aF 29 5 1,
aL 30 29,
aO 31 (.len (aT 30)),
aO 32 (.bin .gtr (aT 31) (.val (.int .i64 80))),
aM 33 32,
bF 34 33 false 6 1,
bL 35 33 false 34,
bO 36 33 false (.len (aT 35)),
bO 37 33 false (.bin .gtr (aT 36) (.val (.int .i64 60))),
aO 38 (.pick (aT 33) (.val (.bool true)) (aT 37))] [] [1, 38])
(.cond (aT 38)
(.seq
(.reg [aO 2 (.mv (.val (.int .i64 4)))] [] [2])
(.ret))
(.skip)))
(.seq
(.seq
(.reg [aF 39 5 1,
aL 40 39,
aO 41 (.call 64 .pure [(aT 40)]),
aO 42 (.un .not (aT 41))] [] [1, 42])
(.cond (aT 42)
(.seq
(.reg [aO 2 (.mv (.val (.int .i64 1)))] [] [2])
(.ret))
(.skip)))
(.seq
(.seq
(.reg [aF 43 6 1,
aL 44 43,
aO 45 (.len (aT 44)),
aO 46 (.mv (.val (.int .i64 0)))] [] [1, 44, 45, 46])
(.blk 0 (.loop (.trim (.seq
(.reg [aO 47 (.bin .lss (aT 46) (aT 45))] [] [1, 44, 45, 46, 47])
(.seq
(.cond (aT 47)
(.skip)
(.ext 0))
(.seq
(.blk 1 (.seq
(.reg [aI 48 5 44 46,
aN 49 5 48,
aO 6 (.zer 68 (.agg [(.int .i64 0), (.int .i64 0), (.int .i64 0), (.list .nil 3 []), (.list .nil 3 [])])),
aZ (.st 5 (aT 6) (aT 49))] [] [1, 6, 44, 45, 46])
(.seq
(.reg [aF 50 0 6,
aL 51 50,
aO 52 (.call 65 .pure [(aT 51), (.val (.int .i64 1)), (.val (.int .i64 20))]),
aO 53 (.un .not (aT 52)),
aM 54 53,
bF 55 54 false 1 6,
bL 56 54 false 55,
bO 57 54 false (.call 65 .pure [(aT 56), (.val (.int .i64 0)), (.val (.int .i64 192))]),
bO 58 54 false (.un .not (aT 57)),
aO 59 (.pick (aT 54) (.val (.bool true)) (aT 58)),
aM 60 59,
bF 61 60 false 2 6,
bL 62 60 false 61,
bO 63 60 false (.call 65 .pure [(aT 62), (.val (.int .i64 0)), (.val (.int .i64 191))]),
bO 64 60 false (.un .not (aT 63)),
aO 65 (.pick (aT 60) (.val (.bool true)) (aT 64)),
aM 66 65,
bF 67 66 false 3 6,
bL 68 66 false 67,
bO 69 66 false (.len (aT 68)),
bF 70 66 false 0 6,
bL 71 66 false 70,
bO 72 66 false (.bin .gtr (aT 69) (aT 71)),
aO 73 (.pick (aT 66) (.val (.bool true)) (aT 72)),
aM 74 73,
bF 75 74 false 4 6,
bL 76 74 false 75,
bO 77 74 false (.len (aT 76)),
bO 78 74 false (.bin .gtr (aT 77) (.val (.int .i64 60))),
aO 79 (.pick (aT 74) (.val (.bool true)) (aT 78)),
aM 80 79,
bF 81 80 false 4 6,
bL 82 80 false 81,
bO 83 80 false (.len (aT 82)),
bO 84 80 false (.bin .gtr (aT 83) (.val (.int .i64 0))),
bM 85 80 false 84,
bF 86 85 true 3 6,
bL 87 85 true 86,
bO 88 85 true (.len (aT 87)),
bO 89 85 true (.bin .eql (aT 88) (.val (.int .i64 0))),
bO 90 80 false (.pick (aT 85) (aT 89) (.val (.bool false))),
aO 91 (.pick (aT 80) (.val (.bool true)) (aT 90))] [] [1, 44, 45, 46, 91])
(.cond (aT 91)
(.seq
(.reg [aO 2 (.mv (.val (.int .i64 1)))] [] [2])
(.ret))
(.skip)))))
(.reg [aO 92 (.bin .add (aT 46) (.val (.int .i64 1))),
aM 46 92] [] [1, 44, 45, 46]))))))))
(.seq
(.seq
(.reg [aF 93 5 1,
aL 94 93,
aO 95 (.len (aT 94)),
aO 96 (.mv (.val (.int .i64 0)))] [] [1, 94, 95, 96])
(.blk 2 (.loop (.trim (.seq
(.reg [aO 97 (.bin .lss (aT 96) (aT 95))] [] [1, 94, 95, 96, 97])
(.seq
(.cond (aT 97)
(.skip)
(.ext 2))
(.seq
(.blk 3 (.seq
(.reg [aI 98 6 94 96,
aN 99 6 98,
aO 8 (.zer 78 (.agg [(.int .i64 0), (.int .i64 0), (.int .i64 0), (.int .i64 0), (.int .i64 0), (.int .i64 0)])),
aZ (.st 6 (aT 8) (aT 99))] [] [1, 8, 94, 95, 96])
(.seq
(.reg [aF 100 0 1,
aN 101 4 100,
aF 102 0 8,
aN 103 3 102,
aO 104 (.call 66 .pure [(aT 101), (aT 103)]),
aO 105 (.un .not (aT 104)),
aM 106 105,
bF 107 106 false 0 1,
bN 108 106 false 4 107,
bF 109 106 false 3 8,
bN 110 106 false 3 109,
bO 111 106 false (.call 66 .pure [(aT 108), (aT 110)]),
bO 112 106 false (.un .not (aT 111)),
aO 113 (.pick (aT 106) (.val (.bool true)) (aT 112))] [] [1, 94, 95, 96, 113])
(.cond (aT 113)
(.seq
(.reg [aO 2 (.mv (.val (.int .i64 2)))] [] [2])
(.ret))
(.skip)))))
(.reg [aO 114 (.bin .add (aT 96) (.val (.int .i64 1))),
aM 96 114] [] [1, 94, 95, 96]))))))))
(.seq
(.seq
(.reg [aF 115 6 1,
aL 116 115,
aO 117 (.len (aT 116)),
aO 118 (.mv (.val (.int .i64 0)))] [] [1, 116, 117, 118])
(.blk 4 (.loop (.trim (.seq
(.reg [aO 119 (.bin .lss (aT 118) (aT 117))] [] [1, 116, 117, 118, 119])
(.seq
(.cond (aT 119)
(.skip)
(.ext 4))
(.seq
(.blk 5 (.seq
(.reg [aI 120 5 116 118,
aN 121 5 120,
aO 10 (.zer 68 (.agg [(.int .i64 0), (.int .i64 0), (.int .i64 0), (.list .nil 3 []), (.list .nil 3 [])])),
aZ (.st 5 (aT 10) (aT 121))] [] [1, 10, 116, 117, 118])
(.seq
(.reg [aN 122 5 10,
aO 123 (.call 67 .pure [(aT 122)]),
aO 124 (.len (aT 123)),
aO 125 (.mv (.val (.int .i64 0)))] [] [1, 116, 117, 118, 123, 124, 125])
(.blk 6 (.loop (.trim (.seq
(.reg [aO 126 (.bin .lss (aT 125) (aT 124))] [] [1, 116, 117, 118, 123, 124, 125, 126])
(.seq
(.cond (aT 126)
(.skip)
(.ext 6))
(.seq
(.blk 7 (.seq
(.reg [aI 127 3 123 125,
aN 128 3 127,
aO 12 (.zer 54 (.agg [(.int .i64 0), (.int .i64 0), (.int .i64 0)])),
aZ (.st 3 (aT 12) (aT 128))] [] [1, 12, 116, 117, 118, 123, 124, 125])
(.seq
(.reg [aF 129 0 1,
aN 130 4 129,
aN 131 3 12,
aO 132 (.call 66 .pure [(aT 130), (aT 131)]),
aO 133 (.un .not (aT 132))] [] [1, 116, 117, 118, 123, 124, 125, 133])
(.cond (aT 133)
(.seq
(.reg [aO 2 (.mv (.val (.int .i64 2)))] [] [2])
(.ret))
(.skip)))))
(.reg [aO 134 (.bin .add (aT 125) (.val (.int .i64 1))),
aM 125 134] [] [1, 116, 117, 118, 123, 124, 125]))))))))))
(.reg [aO 135 (.bin .add (aT 118) (.val (.int .i64 1))),
aM 118 135] [] [1, 116, 117, 118]))))))))
(.seq
(.seq
(.reg [aF 136 6 1,
aL 137 136,
aO 138 (.len (aT 137)),
aO 139 (.mv (.val (.int .i64 0)))] [] [1, 137, 138, 139])
(.blk 8 (.loop (.trim (.seq
(.reg [aO 140 (.bin .lss (aT 139) (aT 138))] [] [1, 137, 138, 139, 140])
(.seq
(.cond (aT 140)
(.skip)
(.ext 8))
(.seq
(.blk 9 (.seq
(.reg [aI 141 5 137 139,
aN 142 5 141,
aO 14 (.zer 68 (.agg [(.int .i64 0), (.int .i64 0), (.int .i64 0), (.list .nil 3 []), (.list .nil 3 [])])),
aZ (.st 5 (aT 14) (aT 142))] [] [1, 14, 137, 138, 139])
(.seq
(.reg [aN 143 7 1,
aN 144 5 14,
aO 145 (.call 67 .pure [(aT 144)]),
aO 146 (.call 68 .pure [(aT 143), (aT 145)]),
aO 147 (.un .not (aT 146))] [] [1, 137, 138, 139, 147])
(.cond (aT 147)
(.seq
(.reg [aO 2 (.mv (.val (.int .i64 8)))] [] [2])
(.ret))
(.skip)))))
(.reg [aO 148 (.bin .add (aT 139) (.val (.int .i64 1))),
aM 139 148] [] [1, 137, 138, 139]))))))))
(.seq
(.reg [aO 2 (.mv (.val (.int .i64 0)))] [] [2])
(.ret))))))))))⟩
theorem pf22_ok : fnOk Tryz.prog 22 pf22 = true := by kernel_rfl

/-- hinterland/hinterlandref16.Safe -/
def pf24 : PFn := ⟨38, 1, [.tmp 2, .tmp 3], .seq
(.reg [aO 1 (.boxp 30 (aT 0)),
aO 2 (.mv (.val (.bool false))),
aO 3 (.mv (.val (.int .i64 0)))] [] [1])
(.seq
(.seq
(.reg [aN 10 7 1,
aO 11 (.call 22 .pure [(aT 10)]),
aM 4 11] [] [1, 4])
(.seq
(.reg [aM 12 4,
aO 13 (.bin .neq (aT 12) (.val (.int .i64 0)))] [] [1, 4, 13])
(.cond (aT 13)
(.seq
(.reg [aM 14 4,
aO 2 (.mv (.val (.bool false))),
aM 3 14] [] [2, 3])
(.ret))
(.skip))))
(.seq
(.seq
(.reg [aF 15 6 1,
aL 16 15,
aO 17 (.len (aT 16)),
aO 18 (.mv (.val (.int .i64 0)))] [] [1, 16, 17, 18])
(.blk 0 (.loop (.trim (.seq
(.reg [aO 19 (.bin .lss (aT 18) (aT 17))] [] [1, 16, 17, 18, 19])
(.seq
(.cond (aT 19)
(.skip)
(.ext 0))
(.seq
(.blk 1 (.seq
(.reg [aM 20 18,
aI 21 5 16 18,
aN 22 5 21,
aO 6 (.zer 68 (.agg [(.int .i64 0), (.int .i64 0), (.int .i64 0), (.list .nil 3 []), (.list .nil 3 [])])),
aM 5 20,
aZ (.st 5 (aT 6) (aT 22))] [] [1, 5, 6, 16, 17, 18])
(.seq
(.reg [aN 23 7 1,
aM 24 5,
aO 25 (.call 73 .pure [(aT 23), (aT 24)]),
aM 7 25] [] [1, 6, 7, 16, 17, 18])
(.seq
(.reg [aN 26 5 6,
aO 27 (.call 67 .pure [(aT 26)]),
aO 28 (.len (aT 27)),
aO 29 (.mv (.val (.int .i64 0)))] [] [1, 7, 16, 17, 18, 27, 28, 29])
(.blk 2 (.loop (.trim (.seq
(.reg [aO 30 (.bin .lss (aT 29) (aT 28))] [] [1, 7, 16, 17, 18, 27, 28, 29, 30])
(.seq
(.cond (aT 30)
(.skip)
(.ext 2))
(.seq
(.blk 3 (.seq
(.reg [aI 31 3 27 29,
aN 32 3 31,
aO 9 (.zer 54 (.agg [(.int .i64 0), (.int .i64 0), (.int .i64 0)])),
aZ (.st 3 (aT 9) (aT 32))] [] [1, 7, 9, 16, 17, 18, 27, 28, 29])
(.seq
(.reg [aN 33 3 9,
aM 34 7,
aO 35 (.call 74 .pure [(aT 33), (aT 34)])] [] [1, 7, 16, 17, 18, 27, 28, 29, 35])
(.cond (aT 35)
(.seq
(.reg [aO 2 (.mv (.val (.bool false))),
aO 3 (.mv (.val (.int .i64 0)))] [] [2, 3])
(.ret))
(.skip)))))
(.reg [aO 36 (.bin .add (aT 29) (.val (.int .i64 1))),
aM 29 36] [] [1, 7, 16, 17, 18, 27, 28, 29])))))))))))
(.reg [aO 37 (.bin .add (aT 18) (.val (.int .i64 1))),
aM 18 37] [] [1, 16, 17, 18]))))))))
(.seq
(.reg [aO 2 (.mv (.val (.bool true))),
aO 3 (.mv (.val (.int .i64 0)))] [] [2, 3])
(.ret))))⟩
theorem pf24_ok : fnOk Tryz.prog 24 pf24 = true := by kernel_rfl

/-- hinterland/hinterlandsame.Yard -/
def pf27 : PFn := ⟨56, 2, [.tmp 4], .seq
(.reg [aO 2 (.boxp 30 (aT 0)),
aO 3 (.boxp 30 (aT 1)),
aO 4 (.mv (.val (.bool false)))] [] [2, 3])
(.seq
(.seq
(.reg [aF 6 0 2,
aN 7 4 6,
aF 8 0 3,
aN 9 4 8,
aO 10 (.call 50 .pure [(aT 7), (aT 9)]),
aO 11 (.un .not (aT 10)),
aM 12 11,
bF 13 12 false 4 2,
bL 14 12 false 13,
bF 15 12 false 4 3,
bL 16 12 false 15,
bO 17 12 false (.call 51 .pure [(aT 14), (aT 16)]),
bO 18 12 false (.un .not (aT 17)),
aO 19 (.pick (aT 12) (.val (.bool true)) (aT 18)),
aM 20 19,
bF 21 20 false 5 2,
bL 22 20 false 21,
bF 23 20 false 5 3,
bL 24 20 false 23,
bO 25 20 false (.call 52 .pure [(aT 22), (aT 24)]),
bO 26 20 false (.un .not (aT 25)),
aO 27 (.pick (aT 20) (.val (.bool true)) (aT 26)),
aM 28 27,
bF 29 28 false 6 2,
bL 30 28 false 29,
bO 31 28 false (.len (aT 30)),
bF 32 28 false 6 3,
bL 33 28 false 32,
bO 34 28 false (.len (aT 33)),
bO 35 28 false (.bin .neq (aT 31) (aT 34)),
aO 36 (.pick (aT 28) (.val (.bool true)) (aT 35))] [] [2, 3, 36])
(.cond (aT 36)
(.seq
(.reg [aO 4 (.mv (.val (.bool false)))] [] [4])
(.ret))
(.skip)))
(.seq
(.seq
(.reg [aF 37 6 2,
aL 38 37,
aO 39 (.len (aT 38)),
aO 40 (.mv (.val (.int .i64 0)))] [] [2, 3, 39, 40])
(.blk 0 (.loop (.seq
(.reg [aO 41 (.bin .lss (aT 40) (aT 39))] [] [2, 3, 39, 40, 41])
(.seq
(.cond (aT 41)
(.skip)
(.ext 0))
(.seq
(.blk 1 (.seq
(.reg [aM 42 40,
aM 5 42] [] [2, 3, 5, 39, 40])
(.seq
(.reg [aF 43 6 2,
aL 44 43,
aM 45 5,
aI 46 5 44 45,
aN 47 5 46,
aF 48 6 3,
aL 49 48,
aM 50 5,
aI 51 5 49 50,
aN 52 5 51,
aO 53 (.call 83 .pure [(aT 47), (aT 52)]),
aO 54 (.un .not (aT 53))] [] [2, 3, 39, 40, 54])
(.cond (aT 54)
(.seq
(.reg [aO 4 (.mv (.val (.bool false)))] [] [4])
(.ret))
(.skip)))))
(.reg [aO 55 (.bin .add (aT 40) (.val (.int .i64 1))),
aM 40 55] [] [2, 3, 39, 40])))))))
(.seq
(.reg [aO 4 (.mv (.val (.bool true)))] [] [4])
(.ret))))⟩
theorem pf27_ok : fnOk Tryz.prog 27 pf27 = true := by kernel_rfl

/-- hinterland/train.Leave -/
def pf34 : PFn := ⟨29, 2, [.cell 4 (some 7), .tmp 5], .seq
(.reg [aO 2 (.boxp 30 (aT 0)),
aO 4 (.zer 30 (.agg [(.int .i64 0), (.int .i64 0), (.list .nil 1 []), (.list .nil 1 []), (.list .nil 4 []), (.list .nil 6 []), (.list .nil 5 [])])),
aO 5 (.mv (.val (.int .i64 0)))] [] [1, 2, 4])
(.seq
(.seq
(.reg [aN 8 7 2,
aM 9 1,
aO 10 (.call 75 .pure [(aT 8), (aT 9)]),
aM 6 10] [] [1, 2, 4, 6])
(.seq
(.reg [aM 11 6,
aO 12 (.bin .neq (aT 11) (.val (.int .i64 0)))] [] [1, 2, 4, 6, 12])
(.cond (aT 12)
(.seq
(.reg [aO 13 (.bld [(.int .i64 0), (.int .i64 0), (.list .nil 1 []), (.list .nil 1 []), (.list .nil 4 []), (.list .nil 6 []), (.list .nil 5 [])] []),
aM 14 6,
aZ (.st 7 (aT 4) (aT 13)),
aM 5 14] [] [4, 5])
(.ret))
(.skip))))
(.seq
(.reg [aN 15 7 2,
aO 16 (.call 76 .opn [(aT 15)]),
aO 7 (.zer 30 (.agg [(.int .i64 0), (.int .i64 0), (.list .nil 1 []), (.list .nil 1 []), (.list .nil 4 []), (.list .nil 6 []), (.list .nil 5 [])])),
aZ (.st 7 (aT 7) (aT 16))] [] [1, 2, 4, 7])
(.seq
(.reg [aF 17 6 7,
aL 18 17,
aM 19 1,
aF 20 6 2,
aL 21 20,
aM 22 1,
aI 23 5 21 22,
aF 24 0 23,
aL 25 24,
aO 26 (.bld [(.int .i64 0), (.int .i64 0), (.int .i64 0), (.list .nil 3 []), (.list .nil 3 [])] [(0, 1, (aT 25))]),
aI 27 5 18 19,
aZ (.st 5 (aT 27) (aT 26))] [] [4, 7])
(.seq
(.reg [aN 28 7 7,
aZ (.st 7 (aT 4) (aT 28)),
aO 5 (.mv (.val (.int .i64 0)))] [] [4, 5])
(.ret)))))⟩
theorem pf34_ok : fnOk Tryz.prog 34 pf34 = true := by kernel_rfl

/-- hinterland/hinterlandref16.Leave -/
def pf35 : PFn := ⟨29, 2, [.cell 4 (some 7), .tmp 5], .seq
(.reg [aO 2 (.boxp 30 (aT 0)),
aO 4 (.zer 30 (.agg [(.int .i64 0), (.int .i64 0), (.list .nil 1 []), (.list .nil 1 []), (.list .nil 4 []), (.list .nil 6 []), (.list .nil 5 [])])),
aO 5 (.mv (.val (.int .i64 0)))] [] [1, 2, 4])
(.seq
(.seq
(.reg [aN 8 7 2,
aM 9 1,
aO 10 (.call 80 .pure [(aT 8), (aT 9)]),
aM 6 10] [] [1, 2, 4, 6])
(.seq
(.reg [aM 11 6,
aO 12 (.bin .neq (aT 11) (.val (.int .i64 0)))] [] [1, 2, 4, 6, 12])
(.cond (aT 12)
(.seq
(.reg [aO 13 (.bld [(.int .i64 0), (.int .i64 0), (.list .nil 1 []), (.list .nil 1 []), (.list .nil 4 []), (.list .nil 6 []), (.list .nil 5 [])] []),
aM 14 6,
aZ (.st 7 (aT 4) (aT 13)),
aM 5 14] [] [4, 5])
(.ret))
(.skip))))
(.seq
(.reg [aN 15 7 2,
aO 16 (.call 81 .opn [(aT 15)]),
aO 7 (.zer 30 (.agg [(.int .i64 0), (.int .i64 0), (.list .nil 1 []), (.list .nil 1 []), (.list .nil 4 []), (.list .nil 6 []), (.list .nil 5 [])])),
aZ (.st 7 (aT 7) (aT 16))] [] [1, 2, 4, 7])
(.seq
(.reg [aF 17 6 7,
aL 18 17,
aM 19 1,
aF 20 6 2,
aL 21 20,
aM 22 1,
aI 23 5 21 22,
aF 24 0 23,
aL 25 24,
aO 26 (.bld [(.int .i64 0), (.int .i64 0), (.int .i64 0), (.list .nil 3 []), (.list .nil 3 [])] [(0, 1, (aT 25))]),
aI 27 5 18 19,
aZ (.st 5 (aT 27) (aT 26))] [] [4, 7])
(.seq
(.reg [aN 28 7 7,
aZ (.st 7 (aT 4) (aT 28)),
aO 5 (.mv (.val (.int .i64 0)))] [] [4, 5])
(.ret)))))⟩
theorem pf35_ok : fnOk Tryz.prog 35 pf35 = true := by kernel_rfl

/-- hinterland/hinterlandsame.List[hinterland/api.Spot] -/
def pf38 : PFn := ⟨26, 2, [.tmp 4], .seq
(.reg [aO 4 (.mv (.val (.bool false)))] [] [0, 1])
(.seq
(.seq
(.reg [aM 6 0,
aO 7 (.len (aT 6)),
aM 8 1,
aO 9 (.len (aT 8)),
aO 10 (.bin .neq (aT 7) (aT 9))] [] [0, 1, 10])
(.cond (aT 10)
(.seq
(.reg [aO 4 (.mv (.val (.bool false)))] [] [4])
(.ret))
(.skip)))
(.seq
(.seq
(.reg [aO 5 (.mv (.val (.int .i64 0)))] [] [0, 1, 5])
(.blk 0 (.loop (.seq
(.seq
(.reg [aM 11 5,
aM 12 0,
aO 13 (.len (aT 12)),
aO 14 (.bin .lss (aT 11) (aT 13))] [] [0, 1, 5, 14])
(.cond (aT 14)
(.skip)
(.ext 0)))
(.seq
(.blk 1 (.seq
(.reg [aM 17 0,
aM 18 5,
aI 19 3 17 18,
aN 20 3 19,
aM 21 1,
aM 22 5,
aI 23 3 21 22,
aN 24 3 23,
aO 25 (.eqs true [true, true, true] (aT 20) (aT 24))] [] [0, 1, 5, 25])
(.cond (aT 25)
(.seq
(.reg [aO 4 (.mv (.val (.bool false)))] [] [4])
(.ret))
(.skip))))
(.reg [aM 15 5,
aO 16 (.bin .add (aT 15) (.val (.int .i64 1))),
aM 5 16] [] [0, 1, 5]))))))
(.seq
(.reg [aO 4 (.mv (.val (.bool true)))] [] [4])
(.ret))))⟩
theorem pf38_ok : fnOk Tryz.prog 38 pf38 = true := by kernel_rfl

/-- hinterland/train.Free -/
def pf39 : PFn := ⟨27, 3, [.tmp 6, .tmp 7], .seq
(.reg [aO 3 (.boxp 30 (aT 0)),
aO 5 (.boxp 54 (aT 2)),
aO 6 (.mv (.val (.bool false))),
aO 7 (.mv (.val (.int .i64 0)))] [] [1, 3, 5])
(.seq
(.seq
(.reg [aN 9 7 3,
aM 10 1,
aO 11 (.call 75 .pure [(aT 9), (aT 10)]),
aM 8 11] [] [1, 3, 5, 8])
(.seq
(.reg [aM 12 8,
aO 13 (.bin .neq (aT 12) (.val (.int .i64 0)))] [] [1, 3, 5, 8, 13])
(.cond (aT 13)
(.seq
(.reg [aM 14 8,
aO 6 (.mv (.val (.bool false))),
aM 7 14] [] [6, 7])
(.ret))
(.skip))))
(.seq
(.seq
(.reg [aF 15 0 3,
aN 16 4 15,
aN 17 3 5,
aO 18 (.call 58 .pure [(aT 16), (aT 17)]),
aO 19 (.un .not (aT 18))] [] [1, 3, 5, 19])
(.cond (aT 19)
(.seq
(.reg [aO 6 (.mv (.val (.bool false))),
aO 7 (.mv (.val (.int .i64 2)))] [] [6, 7])
(.ret))
(.skip)))
(.seq
(.reg [aN 20 7 3,
aO 21 (.call 60 .pure [(aT 20)]),
aM 22 1,
aO 23 (.call 69 .pure [(aT 21), (aT 22)]),
aN 24 3 5,
aO 25 (.call 72 .pure [(aT 23), (aT 24)]),
aO 26 (.un .not (aT 25)),
aM 6 26,
aO 7 (.mv (.val (.int .i64 0)))] [] [6, 7])
(.ret))))⟩
theorem pf39_ok : fnOk Tryz.prog 39 pf39 = true := by kernel_rfl

/-- hinterland/hinterlandref16.Free -/
def pf40 : PFn := ⟨26, 3, [.tmp 6, .tmp 7], .seq
(.reg [aO 3 (.boxp 30 (aT 0)),
aO 5 (.boxp 54 (aT 2)),
aO 6 (.mv (.val (.bool false))),
aO 7 (.mv (.val (.int .i64 0)))] [] [1, 3, 5])
(.seq
(.seq
(.reg [aN 9 7 3,
aM 10 1,
aO 11 (.call 80 .pure [(aT 9), (aT 10)]),
aM 8 11] [] [1, 3, 5, 8])
(.seq
(.reg [aM 12 8,
aO 13 (.bin .neq (aT 12) (.val (.int .i64 0)))] [] [1, 3, 5, 8, 13])
(.cond (aT 13)
(.seq
(.reg [aM 14 8,
aO 6 (.mv (.val (.bool false))),
aM 7 14] [] [6, 7])
(.ret))
(.skip))))
(.seq
(.seq
(.reg [aF 15 0 3,
aN 16 4 15,
aN 17 3 5,
aO 18 (.call 66 .pure [(aT 16), (aT 17)]),
aO 19 (.un .not (aT 18))] [] [1, 3, 5, 19])
(.cond (aT 19)
(.seq
(.reg [aO 6 (.mv (.val (.bool false))),
aO 7 (.mv (.val (.int .i64 2)))] [] [6, 7])
(.ret))
(.skip)))
(.seq
(.reg [aN 20 3 5,
aN 21 7 3,
aM 22 1,
aO 23 (.call 73 .pure [(aT 21), (aT 22)]),
aO 24 (.call 74 .pure [(aT 20), (aT 23)]),
aO 25 (.un .not (aT 24)),
aM 6 25,
aO 7 (.mv (.val (.int .i64 0)))] [] [6, 7])
(.ret))))⟩
theorem pf40_ok : fnOk Tryz.prog 40 pf40 = true := by kernel_rfl

/-- hinterland/train.Turn -/
def pf47 : PFn := ⟨83, 2, [.cell 4 (some 7), .tmp 5], .seq
(.reg [aO 2 (.boxp 30 (aT 0)),
aO 4 (.zer 30 (.agg [(.int .i64 0), (.int .i64 0), (.list .nil 1 []), (.list .nil 1 []), (.list .nil 4 []), (.list .nil 6 []), (.list .nil 5 [])])),
aO 5 (.mv (.val (.int .i64 0)))] [] [1, 2, 4])
(.seq
(.seq
(.reg [aN 14 7 2,
aM 15 1,
aO 16 (.call 75 .pure [(aT 14), (aT 15)]),
aM 6 16] [] [1, 2, 4, 6])
(.seq
(.reg [aM 17 6,
aO 18 (.bin .neq (aT 17) (.val (.int .i64 0)))] [] [1, 2, 4, 6, 18])
(.cond (aT 18)
(.seq
(.reg [aO 19 (.bld [(.int .i64 0), (.int .i64 0), (.list .nil 1 []), (.list .nil 1 []), (.list .nil 4 []), (.list .nil 6 []), (.list .nil 5 [])] []),
aM 20 6,
aZ (.st 7 (aT 4) (aT 19)),
aM 5 20] [] [4, 5])
(.ret))
(.skip))))
(.seq
(.reg [aF 21 6 2,
aL 22 21,
aM 23 1,
aI 24 5 22 23,
aN 25 5 24,
aO 7 (.zer 68 (.agg [(.int .i64 0), (.int .i64 0), (.int .i64 0), (.list .nil 3 []), (.list .nil 3 [])])),
aZ (.st 5 (aT 7) (aT 25))] [] [1, 2, 4, 7])
(.seq
(.seq
(.reg [aF 26 3 7,
aL 27 26,
aO 28 (.len (aT 27)),
aO 29 (.bin .eql (aT 28) (.val (.int .i64 0)))] [] [1, 2, 4, 7, 29])
(.cond (aT 29)
(.seq
(.reg [aO 30 (.bld [(.int .i64 0), (.int .i64 0), (.list .nil 1 []), (.list .nil 1 []), (.list .nil 4 []), (.list .nil 6 []), (.list .nil 5 [])] []),
aZ (.st 7 (aT 4) (aT 30)),
aO 5 (.mv (.val (.int .i64 13)))] [] [4, 5])
(.ret))
(.skip)))
(.seq
(.reg [aO 8 (.nacc 54 3)] [] [1, 2, 4, 7, 8])
(.seq
(.seq
(.reg [aF 31 3 7,
aL 32 31,
aO 33 (.len (aT 32)),
aO 34 (.bin .sub (aT 33) (.val (.int .i64 1))),
aM 9 34] [] [1, 2, 4, 7, 8, 9])
(.blk 0 (.loop (.trim (.seq
(.seq
(.reg [aM 35 9,
aO 36 (.bin .geq (aT 35) (.val (.int .i64 0)))] [] [1, 2, 4, 7, 8, 9, 36])
(.cond (aT 36)
(.skip)
(.ext 0)))
(.seq
(.blk 1 (.seq
(.reg [aF 39 3 7,
aL 40 39,
aM 41 9,
aI 42 3 40 41,
aN 43 3 42,
aO 10 (.zer 54 (.agg [(.int .i64 0), (.int .i64 0), (.int .i64 0)])),
aZ (.st 3 (aT 10) (aT 43))] [] [1, 2, 4, 7, 8, 9, 10])
(.seq
(.reg [aF 45 1 10,
aL 46 45,
aO 47 (.call 102 .pure [(aT 46)]),
aM 44 47,
aO 48 (.ext 0 (aT 44)),
aO 49 (.ext 1 (aT 44)),
aM 11 48,
aM 12 49] [] [1, 2, 4, 7, 8, 9, 10, 11, 12])
(.seq
(.reg [aM 50 11,
aM 51 12,
aO 52 (.bin .add (aT 50) (aT 51)),
aF 53 2 10,
aL 54 53,
aO 55 (.bin .sub (aT 52) (aT 54)),
aF 56 2 10,
aZ (.st 1 (aT 56) (aT 55))] [] [1, 2, 4, 7, 8, 9, 10])
(.reg [aM 57 8,
aN 58 3 10,
aO 59 (.bsl 1 3 [(.int .i64 0), (.int .i64 0), (.int .i64 0)] [(0, 3, (aT 58))]),
aO 60 (.app 54 3 24 (aT 57) (aT 59)),
aM 8 60] [] [1, 2, 4, 7, 8, 9])))))
(.reg [aM 37 9,
aO 38 (.bin .sub (aT 37) (.val (.int .i64 1))),
aM 9 38] [] [1, 2, 4, 7, 8, 9])))))))
(.seq
(.reg [aN 61 7 2,
aO 62 (.call 76 .opn [(aT 61)]),
aO 13 (.zer 30 (.agg [(.int .i64 0), (.int .i64 0), (.list .nil 1 []), (.list .nil 1 []), (.list .nil 4 []), (.list .nil 6 []), (.list .nil 5 [])])),
aZ (.st 7 (aT 13) (aT 62))] [] [1, 2, 4, 7, 8, 13])
(.seq
(.reg [aF 63 6 13,
aL 64 63,
aM 65 1,
aF 66 0 7,
aL 67 66,
aM 68 8,
aO 69 (.bld [(.int .i64 0), (.int .i64 0), (.int .i64 0), (.list .nil 3 []), (.list .nil 3 [])] [(0, 1, (aT 67)), (3, 1, (aT 68))]),
aI 70 5 64 65,
aZ (.st 5 (aT 70) (aT 69))] [] [1, 2, 4, 13])
(.seq
(.seq
(.reg [aN 71 7 2,
aO 72 (.call 60 .pure [(aT 71)]),
aF 73 6 13,
aL 74 73,
aM 75 1,
aI 76 5 74 75,
aN 77 5 76,
aO 78 (.call 59 .pure [(aT 77)]),
aO 79 (.call 61 .pure [(aT 72), (aT 78)]),
aO 80 (.un .not (aT 79))] [] [4, 13, 80])
(.cond (aT 80)
(.seq
(.reg [aO 81 (.bld [(.int .i64 0), (.int .i64 0), (.list .nil 1 []), (.list .nil 1 []), (.list .nil 4 []), (.list .nil 6 []), (.list .nil 5 [])] []),
aZ (.st 7 (aT 4) (aT 81)),
aO 5 (.mv (.val (.int .i64 8)))] [] [4, 5])
(.ret))
(.skip)))
(.seq
(.reg [aN 82 7 13,
aZ (.st 7 (aT 4) (aT 82)),
aO 5 (.mv (.val (.int .i64 0)))] [] [4, 5])
(.ret))))))))))⟩
theorem pf47_ok : fnOk Tryz.prog 47 pf47 = true := by kernel_rfl

/-- hinterland/hinterlandref16.Turn -/
def pf48 : PFn := ⟨78, 2, [.cell 4 (some 7), .tmp 5], .seq
(.reg [aO 2 (.boxp 30 (aT 0)),
aO 4 (.zer 30 (.agg [(.int .i64 0), (.int .i64 0), (.list .nil 1 []), (.list .nil 1 []), (.list .nil 4 []), (.list .nil 6 []), (.list .nil 5 [])])),
aO 5 (.mv (.val (.int .i64 0)))] [] [1, 2, 4])
(.seq
(.seq
(.reg [aN 12 7 2,
aM 13 1,
aO 14 (.call 80 .pure [(aT 12), (aT 13)]),
aM 6 14] [] [1, 2, 4, 6])
(.seq
(.reg [aM 15 6,
aO 16 (.bin .neq (aT 15) (.val (.int .i64 0)))] [] [1, 2, 4, 6, 16])
(.cond (aT 16)
(.seq
(.reg [aO 17 (.bld [(.int .i64 0), (.int .i64 0), (.list .nil 1 []), (.list .nil 1 []), (.list .nil 4 []), (.list .nil 6 []), (.list .nil 5 [])] []),
aM 18 6,
aZ (.st 7 (aT 4) (aT 17)),
aM 5 18] [] [4, 5])
(.ret))
(.skip))))
(.seq
(.reg [aF 19 6 2,
aL 20 19,
aM 21 1,
aI 22 5 20 21,
aN 23 5 22,
aO 7 (.zer 68 (.agg [(.int .i64 0), (.int .i64 0), (.int .i64 0), (.list .nil 3 []), (.list .nil 3 [])])),
aZ (.st 5 (aT 7) (aT 23))] [] [1, 2, 4, 7])
(.seq
(.seq
(.reg [aF 24 3 7,
aL 25 24,
aO 26 (.len (aT 25)),
aO 27 (.bin .eql (aT 26) (.val (.int .i64 0)))] [] [1, 2, 4, 7, 27])
(.cond (aT 27)
(.seq
(.reg [aO 28 (.bld [(.int .i64 0), (.int .i64 0), (.list .nil 1 []), (.list .nil 1 []), (.list .nil 4 []), (.list .nil 6 []), (.list .nil 5 [])] []),
aZ (.st 7 (aT 4) (aT 28)),
aO 5 (.mv (.val (.int .i64 13)))] [] [4, 5])
(.ret))
(.skip)))
(.seq
(.reg [aF 29 0 7,
aL 30 29,
aO 31 (.bld [(.int .i64 0), (.int .i64 0), (.int .i64 0), (.list .nil 3 []), (.list .nil 3 [])] [(0, 1, (aT 30))]),
aO 8 (.zer 68 (.agg [(.int .i64 0), (.int .i64 0), (.int .i64 0), (.list .nil 3 []), (.list .nil 3 [])])),
aZ (.st 5 (aT 8) (aT 31))] [] [1, 2, 4, 7, 8])
(.seq
(.seq
(.reg [aF 32 3 7,
aL 33 32,
aO 34 (.len (aT 33)),
aO 35 (.mv (.val (.int .i64 0)))] [] [1, 2, 4, 7, 8, 34, 35])
(.blk 0 (.loop (.seq
(.reg [aO 36 (.bin .lss (aT 35) (aT 34))] [] [1, 2, 4, 7, 8, 34, 35, 36])
(.seq
(.cond (aT 36)
(.skip)
(.ext 0))
(.seq
(.blk 1 (.seq
(.reg [aM 37 35,
aM 9 37] [] [1, 2, 4, 7, 8, 9, 34, 35])
(.seq
(.reg [aF 38 3 7,
aL 39 38,
aF 40 3 7,
aL 41 40,
aO 42 (.len (aT 41)),
aO 43 (.bin .sub (aT 42) (.val (.int .i64 1))),
aM 44 9,
aO 45 (.bin .sub (aT 43) (aT 44)),
aI 46 3 39 45,
aN 47 3 46,
aO 10 (.zer 54 (.agg [(.int .i64 0), (.int .i64 0), (.int .i64 0)])),
aZ (.st 3 (aT 10) (aT 47))] [] [1, 2, 4, 7, 8, 10, 34, 35])
(.reg [aF 48 3 8,
aL 49 48,
aF 50 0 10,
aL 51 50,
aF 52 1 10,
aL 53 52,
aF 54 1 10,
aL 55 54,
aF 56 2 10,
aL 57 56,
aO 58 (.call 92 .pure [(aT 55), (aT 57)]),
aO 59 (.bld [(.int .i64 0), (.int .i64 0), (.int .i64 0)] [(0, 1, (aT 51)), (1, 1, (aT 53)), (2, 1, (aT 58))]),
aO 60 (.bsl 1 3 [(.int .i64 0), (.int .i64 0), (.int .i64 0)] [(0, 3, (aT 59))]),
aO 61 (.app 54 3 24 (aT 49) (aT 60)),
aF 62 3 8,
aZ (.st 1 (aT 62) (aT 61))] [] [1, 2, 4, 7, 8, 34, 35]))))
(.reg [aO 63 (.bin .add (aT 35) (.val (.int .i64 1))),
aM 35 63] [] [1, 2, 4, 7, 8, 34, 35])))))))
(.seq
(.seq
(.reg [aN 64 7 2,
aN 65 5 8,
aO 66 (.call 67 .pure [(aT 65)]),
aO 67 (.call 68 .pure [(aT 64), (aT 66)]),
aO 68 (.un .not (aT 67))] [] [1, 2, 4, 8, 68])
(.cond (aT 68)
(.seq
(.reg [aO 69 (.bld [(.int .i64 0), (.int .i64 0), (.list .nil 1 []), (.list .nil 1 []), (.list .nil 4 []), (.list .nil 6 []), (.list .nil 5 [])] []),
aZ (.st 7 (aT 4) (aT 69)),
aO 5 (.mv (.val (.int .i64 8)))] [] [4, 5])
(.ret))
(.skip)))
(.seq
(.reg [aN 70 7 2,
aO 71 (.call 81 .opn [(aT 70)]),
aO 11 (.zer 30 (.agg [(.int .i64 0), (.int .i64 0), (.list .nil 1 []), (.list .nil 1 []), (.list .nil 4 []), (.list .nil 6 []), (.list .nil 5 [])])),
aZ (.st 7 (aT 11) (aT 71))] [] [1, 4, 8, 11])
(.seq
(.reg [aF 72 6 11,
aL 73 72,
aM 74 1,
aN 75 5 8,
aI 76 5 73 74,
aZ (.st 5 (aT 76) (aT 75))] [] [4, 11])
(.seq
(.reg [aN 77 7 11,
aZ (.st 7 (aT 4) (aT 77)),
aO 5 (.mv (.val (.int .i64 0)))] [] [4, 5])
(.ret))))))))))⟩
theorem pf48_ok : fnOk Tryz.prog 48 pf48 = true := by kernel_rfl

/-- hinterland/hinterlandsame.Rails -/
def pf50 : PFn := ⟨31, 2, [.tmp 4], .seq
(.reg [aO 2 (.boxp 25 (aT 0)),
aO 3 (.boxp 25 (aT 1)),
aO 4 (.mv (.val (.bool false)))] [] [2, 3])
(.seq
(.reg [aF 5 0 2,
aL 6 5,
aF 7 0 3,
aL 8 7,
aO 9 (.bin .eql (aT 6) (aT 8)),
aM 10 9,
bF 11 10 true 1 2,
bL 12 10 true 11,
bF 13 10 true 1 3,
bL 14 10 true 13,
bO 15 10 true (.bin .eql (aT 12) (aT 14)),
aO 16 (.pick (aT 10) (aT 15) (.val (.bool false))),
aM 17 16,
bF 18 17 true 2 2,
bL 19 17 true 18,
bF 20 17 true 2 3,
bL 21 17 true 20,
bO 22 17 true (.call 30 .pure [(aT 19), (aT 21)]),
aO 23 (.pick (aT 17) (aT 22) (.val (.bool false))),
aM 24 23,
bF 25 24 true 3 2,
bL 26 24 true 25,
bF 27 24 true 3 3,
bL 28 24 true 27,
bO 29 24 true (.call 103 .pure [(aT 26), (aT 28)]),
aO 30 (.pick (aT 24) (aT 29) (.val (.bool false))),
aM 4 30] [] [4])
(.ret))⟩
theorem pf50_ok : fnOk Tryz.prog 50 pf50 = true := by kernel_rfl

/-- hinterland/hinterlandsame.List[hinterland/api.Signal] -/
def pf51 : PFn := ⟨26, 2, [.tmp 4], .seq
(.reg [aO 4 (.mv (.val (.bool false)))] [] [0, 1])
(.seq
(.seq
(.reg [aM 6 0,
aO 7 (.len (aT 6)),
aM 8 1,
aO 9 (.len (aT 8)),
aO 10 (.bin .neq (aT 7) (aT 9))] [] [0, 1, 10])
(.cond (aT 10)
(.seq
(.reg [aO 4 (.mv (.val (.bool false)))] [] [4])
(.ret))
(.skip)))
(.seq
(.seq
(.reg [aO 5 (.mv (.val (.int .i64 0)))] [] [0, 1, 5])
(.blk 0 (.loop (.seq
(.seq
(.reg [aM 11 5,
aM 12 0,
aO 13 (.len (aT 12)),
aO 14 (.bin .lss (aT 11) (aT 13))] [] [0, 1, 5, 14])
(.cond (aT 14)
(.skip)
(.ext 0)))
(.seq
(.blk 1 (.seq
(.reg [aM 17 0,
aM 18 5,
aI 19 4 17 18,
aN 20 4 19,
aM 21 1,
aM 22 5,
aI 23 4 21 22,
aN 24 4 23,
aO 25 (.eqs true [true, true, true, true] (aT 20) (aT 24))] [] [0, 1, 5, 25])
(.cond (aT 25)
(.seq
(.reg [aO 4 (.mv (.val (.bool false)))] [] [4])
(.ret))
(.skip))))
(.reg [aM 15 5,
aO 16 (.bin .add (aT 15) (.val (.int .i64 1))),
aM 5 16] [] [0, 1, 5]))))))
(.seq
(.reg [aO 4 (.mv (.val (.bool true)))] [] [4])
(.ret))))⟩
theorem pf51_ok : fnOk Tryz.prog 51 pf51 = true := by kernel_rfl

/-- hinterland/hinterlandsame.List[hinterland/api.Joint] -/
def pf52 : PFn := ⟨26, 2, [.tmp 4], .seq
(.reg [aO 4 (.mv (.val (.bool false)))] [] [0, 1])
(.seq
(.seq
(.reg [aM 6 0,
aO 7 (.len (aT 6)),
aM 8 1,
aO 9 (.len (aT 8)),
aO 10 (.bin .neq (aT 7) (aT 9))] [] [0, 1, 10])
(.cond (aT 10)
(.seq
(.reg [aO 4 (.mv (.val (.bool false)))] [] [4])
(.ret))
(.skip)))
(.seq
(.seq
(.reg [aO 5 (.mv (.val (.int .i64 0)))] [] [0, 1, 5])
(.blk 0 (.loop (.seq
(.seq
(.reg [aM 11 5,
aM 12 0,
aO 13 (.len (aT 12)),
aO 14 (.bin .lss (aT 11) (aT 13))] [] [0, 1, 5, 14])
(.cond (aT 14)
(.skip)
(.ext 0)))
(.seq
(.blk 1 (.seq
(.reg [aM 17 0,
aM 18 5,
aI 19 6 17 18,
aN 20 6 19,
aM 21 1,
aM 22 5,
aI 23 6 21 22,
aN 24 6 23,
aO 25 (.eqs true [true, true, true, true, true, true] (aT 20) (aT 24))] [] [0, 1, 5, 25])
(.cond (aT 25)
(.seq
(.reg [aO 4 (.mv (.val (.bool false)))] [] [4])
(.ret))
(.skip))))
(.reg [aM 15 5,
aO 16 (.bin .add (aT 15) (.val (.int .i64 1))),
aM 5 16] [] [0, 1, 5]))))))
(.seq
(.reg [aO 4 (.mv (.val (.bool true)))] [] [4])
(.ret))))⟩
theorem pf52_ok : fnOk Tryz.prog 52 pf52 = true := by kernel_rfl

/-- hinterland/hinterlandref03.Validate -/
def pf62 : PFn := ⟨80, 1, [.tmp 2], .seq
(.reg [aO 1 (.boxp 25 (aT 0)),
aO 2 (.mv (.val (.int .i64 0)))] [] [1])
(.seq
(.seq
(.reg [aF 4 0 1,
aL 5 4,
aO 6 (.bin .lss (aT 5) (.val (.int .i64 4))),
aM 7 6,
bF 8 7 false 0 1,
bL 9 7 false 8,
bO 10 7 false (.bin .gtr (aT 9) (.val (.int .i64 32))),
aO 11 (.pick (aT 7) (.val (.bool true)) (aT 10)),
aM 12 11,
bF 13 12 false 1 1,
bL 14 12 false 13,
bO 15 12 false (.bin .lss (aT 14) (.val (.int .i64 4))),
aO 16 (.pick (aT 12) (.val (.bool true)) (aT 15)),
aM 17 16,
bF 18 17 false 1 1,
bL 19 17 false 18,
bO 20 17 false (.bin .gtr (aT 19) (.val (.int .i64 32))),
aO 21 (.pick (aT 17) (.val (.bool true)) (aT 20)),
aM 22 21,
bF 23 22 false 2 1,
bL 24 22 false 23,
bO 25 22 false (.len (aT 24)),
bF 26 22 false 0 1,
bL 27 22 false 26,
bF 28 22 false 1 1,
bL 29 22 false 28,
bO 30 22 false (.bin .mul (aT 27) (aT 29)),
bO 31 22 false (.bin .neq (aT 25) (aT 30)),
aO 32 (.pick (aT 22) (.val (.bool true)) (aT 31)),
aM 33 32,
bF 34 33 false 3 1,
bL 35 33 false 34,
bO 36 33 false (.len (aT 35)),
bF 37 33 false 0 1,
bL 38 33 false 37,
bF 39 33 false 1 1,
bL 40 33 false 39,
bO 41 33 false (.bin .mul (aT 38) (aT 40)),
bO 42 33 false (.bin .neq (aT 36) (aT 41)),
aO 43 (.pick (aT 33) (.val (.bool true)) (aT 42))] [] [1, 43])
(.cond (aT 43)
(.seq
(.reg [aO 2 (.mv (.val (.int .i64 1)))] [] [2])
(.ret))
(.skip)))
(.seq
(.seq
(.reg [aO 3 (.mv (.val (.int .i64 0)))] [] [1, 3])
(.blk 0 (.loop (.seq
(.seq
(.reg [aM 44 3,
aF 45 2 1,
aL 46 45,
aO 47 (.len (aT 46)),
aO 48 (.bin .lss (aT 44) (aT 47))] [] [1, 3, 48])
(.cond (aT 48)
(.skip)
(.ext 0)))
(.seq
(.blk 1 (.seq
(.reg [aF 51 2 1,
aL 52 51,
aM 53 3,
aI 54 1 52 53,
aL 55 54,
aO 56 (.bin .lss (aT 55) (.val (.int .i64 0))),
aM 57 56,
bF 58 57 false 2 1,
bL 59 57 false 58,
bM 60 57 false 3,
bO 61 57 false (.iaS 1 (aT 59) (aT 60)),
bL 62 57 false 61,
bO 63 57 false (.bin .gtr (aT 62) (.val (.int .i64 63))),
aO 64 (.pick (aT 57) (.val (.bool true)) (aT 63)),
aM 65 64,
bF 66 65 false 2 1,
bL 67 65 false 66,
bM 68 65 false 3,
bO 69 65 false (.iaS 1 (aT 67) (aT 68)),
bL 70 65 false 69,
bO 71 65 false (.bin .eql (aT 70) (.val (.int .i64 0))),
bM 72 65 false 71,
bF 73 72 true 3 1,
bL 74 72 true 73,
bM 75 72 true 3,
bO 76 72 true (.iaS 1 (aT 74) (aT 75)),
bL 77 72 true 76,
bO 78 65 false (.pick (aT 72) (aT 77) (.val (.bool false))),
aO 79 (.pick (aT 65) (.val (.bool true)) (aT 78))] [] [1, 3, 79])
(.cond (aT 79)
(.seq
(.reg [aO 2 (.mv (.val (.int .i64 1)))] [] [2])
(.ret))
(.skip))))
(.reg [aM 49 3,
aO 50 (.bin .add (aT 49) (.val (.int .i64 1))),
aM 3 50] [] [1, 3]))))))
(.seq
(.reg [aO 2 (.mv (.val (.int .i64 0)))] [] [2])
(.ret))))⟩
theorem pf62_ok : fnOk Tryz.prog 62 pf62 = true := by kernel_rfl

/-- hinterland/hinterlandref07.Validate -/
def pf63 : PFn := ⟨86, 2, [.tmp 4], .seq
(.reg [aO 2 (.boxp 25 (aT 0)),
aO 4 (.mv (.val (.int .i64 0)))] [] [1, 2])
(.seq
(.seq
(.reg [aN 8 4 2,
aO 9 (.call 62 .pure [(aT 8)]),
aM 5 9] [] [1, 2, 5])
(.seq
(.reg [aM 10 5,
aO 11 (.bin .neq (aT 10) (.val (.int .i64 0)))] [] [1, 2, 5, 11])
(.cond (aT 11)
(.seq
(.reg [aM 12 5,
aM 4 12] [] [4])
(.ret))
(.skip))))
(.seq
(.seq
(.reg [aM 13 1,
aO 14 (.len (aT 13)),
aO 15 (.bin .gtr (aT 14) (.val (.int .i64 300)))] [] [1, 2, 15])
(.cond (aT 15)
(.seq
(.reg [aO 4 (.mv (.val (.int .i64 1)))] [] [4])
(.ret))
(.skip)))
(.seq
(.seq
(.reg [aO 6 (.mv (.val (.int .i64 0)))] [] [1, 2, 6])
(.blk 0 (.loop (.seq
(.seq
(.reg [aM 16 6,
aM 17 1,
aO 18 (.len (aT 17)),
aO 19 (.bin .lss (aT 16) (aT 18))] [] [1, 2, 6, 19])
(.cond (aT 19)
(.skip)
(.ext 0)))
(.seq
(.blk 1 (.seq
(.reg [aM 22 1,
aM 23 6,
aI 24 4 22 23,
aF 25 3 24,
aL 26 25,
aO 27 (.bin .lss (aT 26) (.val (.int .i64 0))),
aM 28 27,
bM 29 28 false 1,
bM 30 28 false 6,
bO 31 28 false (.iaS 4 (aT 29) (aT 30)),
bF 32 28 false 3 31,
bL 33 28 false 32,
bO 34 28 false (.bin .gtr (aT 33) (.val (.int .i64 5))),
aO 35 (.pick (aT 28) (.val (.bool true)) (aT 34)),
aM 36 35,
bM 37 36 false 6,
bO 38 36 false (.bin .gtr (aT 37) (.val (.int .i64 0))),
bM 39 36 false 38,
bM 40 39 true 1,
bM 41 39 true 6,
bO 42 39 true (.bin .sub (aT 41) (.val (.int .i64 1))),
bO 43 39 true (.iaS 4 (aT 40) (aT 42)),
bN 44 39 true 4 43,
bM 45 39 true 1,
bM 46 39 true 6,
bO 47 39 true (.iaS 4 (aT 45) (aT 46)),
bN 48 39 true 4 47,
bO 49 39 true (.call 111 .pure [(aT 44), (aT 48)]),
bO 50 39 true (.un .not (aT 49)),
bO 51 36 false (.pick (aT 39) (aT 50) (.val (.bool false))),
aO 52 (.pick (aT 36) (.val (.bool true)) (aT 51))] [] [1, 2, 6, 52])
(.cond (aT 52)
(.seq
(.reg [aO 4 (.mv (.val (.int .i64 1)))] [] [4])
(.ret))
(.skip))))
(.reg [aM 20 6,
aO 21 (.bin .add (aT 20) (.val (.int .i64 1))),
aM 6 21] [] [1, 2, 6]))))))
(.seq
(.seq
(.reg [aO 7 (.mv (.val (.int .i64 0)))] [] [1, 2, 7])
(.blk 2 (.loop (.seq
(.seq
(.reg [aM 53 7,
aM 54 1,
aO 55 (.len (aT 54)),
aO 56 (.bin .lss (aT 53) (aT 55))] [] [1, 2, 7, 56])
(.cond (aT 56)
(.skip)
(.ext 2)))
(.seq
(.blk 3 (.seq
(.reg [aN 59 4 2,
aM 60 1,
aM 61 7,
aI 62 4 60 61,
aF 63 0 62,
aL 64 63,
aM 65 1,
aM 66 7,
aI 67 4 65 66,
aF 68 1 67,
aL 69 68,
aO 70 (.call 112 .pure [(aT 59), (aT 64), (aT 69)]),
aO 71 (.un .not (aT 70)),
aM 72 71,
bM 73 72 false 1,
bM 74 72 false 7,
bO 75 72 false (.iaS 4 (aT 73) (aT 74)),
bF 76 72 false 1 75,
bL 77 72 false 76,
bM 78 72 false 1,
bM 79 72 false 7,
bO 80 72 false (.iaS 4 (aT 78) (aT 79)),
bF 81 72 false 2 80,
bL 82 72 false 81,
bO 83 72 false (.call 113 .pure [(aT 77), (aT 82)]),
bO 84 72 false (.un .not (aT 83)),
aO 85 (.pick (aT 72) (.val (.bool true)) (aT 84))] [] [1, 2, 7, 85])
(.cond (aT 85)
(.seq
(.reg [aO 4 (.mv (.val (.int .i64 2)))] [] [4])
(.ret))
(.skip))))
(.reg [aM 57 7,
aO 58 (.bin .add (aT 57) (.val (.int .i64 1))),
aM 7 58] [] [1, 2, 7]))))))
(.seq
(.reg [aO 4 (.mv (.val (.int .i64 0)))] [] [4])
(.ret))))))⟩
theorem pf63_ok : fnOk Tryz.prog 63 pf63 = true := by kernel_rfl

/-- hinterland/hinterlandref16.order -/
def pf64 : PFn := ⟨42, 1, [.tmp 2], .seq
(.reg [aO 2 (.mv (.val (.bool false)))] [] [0])
(.seq
(.seq
(.reg [aO 3 (.mv (.val (.int .i64 1)))] [] [0, 3])
(.blk 0 (.loop (.trim (.seq
(.seq
(.reg [aM 6 3,
aM 7 0,
aO 8 (.len (aT 7)),
aO 9 (.bin .lss (aT 6) (aT 8))] [] [0, 3, 9])
(.cond (aT 9)
(.skip)
(.ext 0)))
(.seq
(.blk 1 (.seq
(.reg [aM 12 0,
aM 13 3,
aO 14 (.bin .sub (aT 13) (.val (.int .i64 1))),
aI 15 6 12 14,
aN 16 6 15,
aM 17 0,
aM 18 3,
aI 19 6 17 18,
aN 20 6 19,
aO 4 (.zer 78 (.agg [(.int .i64 0), (.int .i64 0), (.int .i64 0), (.int .i64 0), (.int .i64 0), (.int .i64 0)])),
aO 5 (.zer 78 (.agg [(.int .i64 0), (.int .i64 0), (.int .i64 0), (.int .i64 0), (.int .i64 0), (.int .i64 0)])),
aZ (.st 6 (aT 4) (aT 16)),
aZ (.st 6 (aT 5) (aT 20))] [(4, 0), (8, 0), (8, 11), (8, 12)] [0, 3, 4, 5])
(.seq
(.reg [aF 21 0 4,
aN 22 3 21,
aF 23 0 5,
aN 24 3 23,
aO 25 (.call 114 .pure [(aT 22), (aT 24)]),
aO 26 (.un .not (aT 25)),
aM 27 26,
bF 28 27 true 0 4,
bN 29 27 true 3 28,
bF 30 27 true 0 5,
bN 31 27 true 3 30,
bO 32 27 true (.eqs false [true, true, true] (aT 29) (aT 31)),
bM 33 27 true 32,
bF 34 33 true 3 4,
bN 35 33 true 3 34,
bF 36 33 true 3 5,
bN 37 33 true 3 36,
bO 38 33 true (.call 114 .pure [(aT 35), (aT 37)]),
bO 39 27 true (.pick (aT 33) (aT 38) (.val (.bool false))),
bO 40 27 true (.un .not (aT 39)),
aO 41 (.pick (aT 27) (aT 40) (.val (.bool false)))] [] [0, 3, 41])
(.cond (aT 41)
(.seq
(.reg [aO 2 (.mv (.val (.bool false)))] [] [2])
(.ret))
(.skip)))))
(.reg [aM 10 3,
aO 11 (.bin .add (aT 10) (.val (.int .i64 1))),
aM 3 11] [] [0, 3])))))))
(.seq
(.reg [aO 2 (.mv (.val (.bool true)))] [] [2])
(.ret)))⟩
theorem pf64_ok : fnOk Tryz.prog 64 pf64 = true := by kernel_rfl

/-- hinterland/hinterlandref16.within -/
def pf65 : PFn := ⟨15, 3, [.tmp 6], .seq
(.reg [aO 6 (.mv (.val (.bool false)))] [] [0, 1, 2])
(.seq
(.reg [aM 7 0,
aM 8 1,
aO 9 (.bin .geq (aT 7) (aT 8)),
aM 10 9,
bM 11 10 true 0,
bM 12 10 true 2,
bO 13 10 true (.bin .leq (aT 11) (aT 12)),
aO 14 (.pick (aT 10) (aT 13) (.val (.bool false))),
aM 6 14] [] [6])
(.ret))⟩
theorem pf65_ok : fnOk Tryz.prog 65 pf65 = true := by kernel_rfl

/-- hinterland/hinterlandref16.lies -/
def pf66 : PFn := ⟨43, 2, [.tmp 4], .seq
(.reg [aO 2 (.boxp 25 (aT 0)),
aO 3 (.boxp 54 (aT 1)),
aO 4 (.mv (.val (.bool false)))] [] [2, 3])
(.seq
(.reg [aF 5 0 3,
aL 6 5,
aO 7 (.bin .geq (aT 6) (.val (.int .i64 0))),
aM 8 7,
bF 9 8 true 0 3,
bL 10 8 true 9,
bF 11 8 true 2 2,
bL 12 8 true 11,
bO 13 8 true (.len (aT 12)),
bO 14 8 true (.bin .lss (aT 10) (aT 13)),
aO 15 (.pick (aT 8) (aT 14) (.val (.bool false))),
aM 16 15,
bF 17 16 true 1 3,
bL 18 16 true 17,
bO 19 16 true (.call 65 .pure [(aT 18), (.val (.int .i64 0)), (.val (.int .i64 5))]),
aO 20 (.pick (aT 16) (aT 19) (.val (.bool false))),
aM 21 20,
bF 22 21 true 2 2,
bL 23 21 true 22,
bF 24 21 true 0 3,
bL 25 21 true 24,
bO 26 21 true (.iaS 1 (aT 23) (aT 25)),
bL 27 21 true 26,
bF 28 21 true 1 3,
bL 29 21 true 28,
bO 30 21 true (.conv .u64 (aT 29)),
bO 31 21 true (.bin .shr (aT 27) (aT 30)),
bO 32 21 true (.bin .rem (aT 31) (.val (.int .i64 2))),
bO 33 21 true (.bin .eql (aT 32) (.val (.int .i64 1))),
aO 34 (.pick (aT 21) (aT 33) (.val (.bool false))),
aM 35 34,
bF 36 35 true 1 3,
bL 37 35 true 36,
bF 38 35 true 2 3,
bL 39 35 true 38,
bO 40 35 true (.call 92 .pure [(aT 37), (aT 39)]),
bO 41 35 true (.bin .geq (aT 40) (.val (.int .i64 0))),
aO 42 (.pick (aT 35) (aT 41) (.val (.bool false))),
aM 4 42] [] [4])
(.ret))⟩
theorem pf66_ok : fnOk Tryz.prog 66 pf66 = true := by kernel_rfl

/-- hinterland/hinterlandref16.way -/
def pf67 : PFn := ⟨29, 1, [.tmp 2], .seq
(.reg [aO 1 (.boxp 68 (aT 0)),
aO 2 (.mv (.val (.list .nil 3 [])))] [] [1])
(.seq
(.reg [aO 3 (.nacc 54 3)] [] [1, 3])
(.seq
(.seq
(.reg [aF 5 3 1,
aL 6 5,
aO 7 (.len (aT 6)),
aO 8 (.mv (.val (.int .i64 0)))] [] [1, 3, 7, 8])
(.blk 0 (.loop (.seq
(.reg [aO 9 (.bin .lss (aT 8) (aT 7))] [] [1, 3, 7, 8, 9])
(.seq
(.cond (aT 9)
(.skip)
(.ext 0))
(.seq
(.blk 1 (.seq
(.reg [aM 10 8,
aM 4 10] [] [1, 3, 4, 7, 8])
(.reg [aM 11 3,
aF 12 3 1,
aL 13 12,
aF 14 3 1,
aL 15 14,
aO 16 (.len (aT 15)),
aO 17 (.bin .sub (aT 16) (.val (.int .i64 1))),
aM 18 4,
aO 19 (.bin .sub (aT 17) (aT 18)),
aI 20 3 13 19,
aN 21 3 20,
aO 22 (.bsl 1 3 [(.int .i64 0), (.int .i64 0), (.int .i64 0)] [(0, 3, (aT 21))]),
aO 23 (.app 54 3 24 (aT 11) (aT 22)),
aM 3 23] [] [1, 3, 7, 8])))
(.reg [aO 24 (.bin .add (aT 8) (.val (.int .i64 1))),
aM 8 24] [] [1, 3, 7, 8])))))))
(.seq
(.reg [aM 25 3,
aF 26 4 1,
aL 27 26,
aO 28 (.app 54 3 24 (aT 25) (aT 27)),
aM 2 28] [] [2])
(.ret))))⟩
theorem pf67_ok : fnOk Tryz.prog 67 pf67 = true := by kernel_rfl

/-- hinterland/hinterlandref16.one -/
def pf68 : PFn := ⟨51, 2, [.tmp 4], .seq
(.reg [aO 2 (.boxp 30 (aT 0)),
aO 4 (.mv (.val (.bool false)))] [] [1, 2])
(.seq
(.seq
(.reg [aM 9 1,
aO 10 (.len (aT 9)),
aO 11 (.mv (.val (.int .i64 0)))] [] [1, 2, 9, 10, 11])
(.blk 0 (.loop (.trim (.seq
(.reg [aO 12 (.bin .lss (aT 11) (aT 10))] [] [1, 2, 9, 10, 11, 12])
(.seq
(.cond (aT 12)
(.skip)
(.ext 0))
(.seq
(.blk 1 (.seq
(.reg [aM 13 11,
aI 14 3 9 11,
aN 15 3 14,
aO 6 (.zer 54 (.agg [(.int .i64 0), (.int .i64 0), (.int .i64 0)])),
aM 5 13,
aZ (.st 3 (aT 6) (aT 15))] [] [1, 2, 5, 6, 9, 10, 11])
(.seq
(.seq
(.reg [aM 16 5,
aO 17 (.bin .gtr (aT 16) (.val (.int .i64 0))),
aM 18 17,
bN 19 18 true 7 2,
bM 20 18 true 1,
bM 21 18 true 5,
bO 22 18 true (.bin .sub (aT 21) (.val (.int .i64 1))),
bO 23 18 true (.iaS 3 (aT 20) (aT 22)),
bN 24 18 true 3 23,
bN 25 18 true 3 6,
bO 26 18 true (.call 115 .pure [(aT 19), (aT 24), (aT 25)]),
bO 27 18 true (.un .not (aT 26)),
aO 28 (.pick (aT 18) (aT 27) (.val (.bool false)))] [] [1, 2, 5, 6, 9, 10, 11, 28])
(.cond (aT 28)
(.seq
(.reg [aO 4 (.mv (.val (.bool false)))] [] [4])
(.ret))
(.skip)))
(.seq
(.reg [aM 29 1,
aM 30 5,
aO 31 (.slc 3 (aT 29) none (some (aT 30)) none),
aO 32 (.len (aT 31)),
aO 33 (.mv (.val (.int .i64 0)))] [] [1, 2, 6, 9, 10, 11, 31, 32, 33])
(.blk 2 (.loop (.trim (.seq
(.reg [aO 34 (.bin .lss (aT 33) (aT 32))] [] [1, 2, 6, 9, 10, 11, 31, 32, 33, 34])
(.seq
(.cond (aT 34)
(.skip)
(.ext 2))
(.seq
(.blk 3 (.seq
(.reg [aI 35 3 31 33,
aN 36 3 35,
aO 8 (.zer 54 (.agg [(.int .i64 0), (.int .i64 0), (.int .i64 0)])),
aZ (.st 3 (aT 8) (aT 36))] [] [1, 2, 6, 8, 9, 10, 11, 31, 32, 33])
(.seq
(.reg [aF 37 0 8,
aL 38 37,
aF 39 0 6,
aL 40 39,
aO 41 (.bin .eql (aT 38) (aT 40)),
aM 42 41,
bF 43 42 true 1 8,
bL 44 42 true 43,
bF 45 42 true 1 6,
bL 46 42 true 45,
bO 47 42 true (.bin .eql (aT 44) (aT 46)),
aO 48 (.pick (aT 42) (aT 47) (.val (.bool false)))] [] [1, 2, 6, 9, 10, 11, 31, 32, 33, 48])
(.cond (aT 48)
(.seq
(.reg [aO 4 (.mv (.val (.bool false)))] [] [4])
(.ret))
(.skip)))))
(.reg [aO 49 (.bin .add (aT 33) (.val (.int .i64 1))),
aM 33 49] [] [1, 2, 6, 9, 10, 11, 31, 32, 33])))))))))))
(.reg [aO 50 (.bin .add (aT 11) (.val (.int .i64 1))),
aM 11 50] [] [1, 2, 9, 10, 11]))))))))
(.seq
(.reg [aO 4 (.mv (.val (.bool true)))] [] [4])
(.ret)))⟩
theorem pf68_ok : fnOk Tryz.prog 68 pf68 = true := by kernel_rfl

/-- hinterland/hinterlandref16.others -/
def pf73 : PFn := ⟨25, 2, [.tmp 4], .seq
(.reg [aO 2 (.boxp 30 (aT 0)),
aO 4 (.mv (.val (.list .nil 3 [])))] [] [1, 2])
(.seq
(.reg [aO 5 (.nacc 54 3)] [] [1, 2, 5])
(.seq
(.seq
(.reg [aF 8 6 2,
aL 9 8,
aO 10 (.len (aT 9)),
aO 11 (.mv (.val (.int .i64 0)))] [] [1, 5, 9, 10, 11])
(.blk 0 (.loop (.trim (.seq
(.reg [aO 12 (.bin .lss (aT 11) (aT 10))] [] [1, 5, 9, 10, 11, 12])
(.seq
(.cond (aT 12)
(.skip)
(.ext 0))
(.seq
(.blk 1 (.seq
(.reg [aM 13 11,
aI 14 5 9 11,
aN 15 5 14,
aO 7 (.zer 68 (.agg [(.int .i64 0), (.int .i64 0), (.int .i64 0), (.list .nil 3 []), (.list .nil 3 [])])),
aM 6 13,
aZ (.st 5 (aT 7) (aT 15))] [] [1, 5, 6, 7, 9, 10, 11])
(.seq
(.reg [aM 16 6,
aM 17 1,
aO 18 (.bin .neq (aT 16) (aT 17))] [] [1, 5, 7, 9, 10, 11, 18])
(.cond (aT 18)
(.reg [aM 19 5,
aN 20 5 7,
aO 21 (.call 67 .pure [(aT 20)]),
aO 22 (.app 54 3 24 (aT 19) (aT 21)),
aM 5 22] [] [1, 5, 9, 10, 11])
(.skip)))))
(.reg [aO 23 (.bin .add (aT 11) (.val (.int .i64 1))),
aM 11 23] [] [1, 5, 9, 10, 11]))))))))
(.seq
(.reg [aM 24 5,
aM 4 24] [] [4])
(.ret))))⟩
theorem pf73_ok : fnOk Tryz.prog 73 pf73 = true := by kernel_rfl

/-- hinterland/hinterlandref16.meets -/
def pf74 : PFn := ⟨17, 2, [.tmp 4], .seq
(.reg [aO 2 (.boxp 54 (aT 0)),
aO 4 (.mv (.val (.bool false)))] [] [1, 2])
(.seq
(.seq
(.reg [aM 7 1,
aO 8 (.len (aT 7)),
aO 9 (.mv (.val (.int .i64 0)))] [] [2, 7, 8, 9])
(.blk 0 (.loop (.trim (.seq
(.reg [aO 10 (.bin .lss (aT 9) (aT 8))] [] [2, 7, 8, 9, 10])
(.seq
(.cond (aT 10)
(.skip)
(.ext 0))
(.seq
(.blk 1 (.seq
(.reg [aI 11 3 7 9,
aN 12 3 11,
aO 6 (.zer 54 (.agg [(.int .i64 0), (.int .i64 0), (.int .i64 0)])),
aZ (.st 3 (aT 6) (aT 12))] [] [2, 6, 7, 8, 9])
(.seq
(.reg [aN 13 3 2,
aN 14 3 6,
aO 15 (.call 118 .pure [(aT 13), (aT 14)])] [] [2, 7, 8, 9, 15])
(.cond (aT 15)
(.seq
(.reg [aO 4 (.mv (.val (.bool true)))] [] [4])
(.ret))
(.skip)))))
(.reg [aO 16 (.bin .add (aT 9) (.val (.int .i64 1))),
aM 9 16] [] [2, 7, 8, 9]))))))))
(.seq
(.reg [aO 4 (.mv (.val (.bool false)))] [] [4])
(.ret)))⟩
theorem pf74_ok : fnOk Tryz.prog 74 pf74 = true := by kernel_rfl

/-- hinterland/hinterlandref16.asked -/
def pf80 : PFn := ⟨20, 2, [.tmp 4], .seq
(.reg [aO 2 (.boxp 30 (aT 0)),
aO 4 (.mv (.val (.int .i64 0)))] [] [1, 2])
(.seq
(.seq
(.reg [aN 6 7 2,
aO 7 (.call 22 .pure [(aT 6)]),
aM 5 7] [] [1, 2, 5])
(.seq
(.reg [aM 8 5,
aO 9 (.bin .neq (aT 8) (.val (.int .i64 0)))] [] [1, 2, 5, 9])
(.cond (aT 9)
(.seq
(.reg [aM 10 5,
aM 4 10] [] [4])
(.ret))
(.skip))))
(.seq
(.seq
(.reg [aM 11 1,
aO 12 (.bin .lss (aT 11) (.val (.int .i64 0))),
aM 13 12,
bM 14 13 false 1,
bF 15 13 false 6 2,
bL 16 13 false 15,
bO 17 13 false (.len (aT 16)),
bO 18 13 false (.bin .geq (aT 14) (aT 17)),
aO 19 (.pick (aT 13) (.val (.bool true)) (aT 18))] [] [19])
(.cond (aT 19)
(.seq
(.reg [aO 4 (.mv (.val (.int .i64 2)))] [] [4])
(.ret))
(.skip)))
(.seq
(.reg [aO 4 (.mv (.val (.int .i64 0)))] [] [4])
(.ret))))⟩
theorem pf80_ok : fnOk Tryz.prog 80 pf80 = true := by kernel_rfl

/-- hinterland/hinterlandref16.Copied -/
def pf81 : PFn := ⟨54, 1, [.cell 2 (some 7)], .seq
(.reg [aO 1 (.boxm 30 (aT 0)),
aO 2 (.zer 30 (.agg [(.int .i64 0), (.int .i64 0), (.list .nil 1 []), (.list .nil 1 []), (.list .nil 4 []), (.list .nil 6 []), (.list .nil 5 [])]))] [] [1, 2])
(.seq
(.reg [aF 6 0 1,
aF 7 2 6,
aL 8 7,
aO 9 (.appp 3 1 8 (.val (.list .nil 1 [])) (aT 8)),
aF 10 0 1,
aF 11 2 10,
aZ (.st 1 (aT 11) (aT 9))] [] [1, 2])
(.seq
(.reg [aF 12 0 1,
aF 13 3 12,
aL 14 13,
aO 15 (.appp 4 1 1 (.val (.list .nil 1 [])) (aT 14)),
aF 16 0 1,
aF 17 3 16,
aZ (.st 1 (aT 17) (aT 15))] [] [1, 2])
(.seq
(.reg [aF 18 4 1,
aL 19 18,
aO 20 (.appp 75 4 32 (.val (.list .nil 4 [])) (aT 19)),
aF 21 4 1,
aZ (.st 1 (aT 21) (aT 20))] [] [1, 2])
(.seq
(.reg [aF 22 5 1,
aL 23 22,
aO 24 (.appp 78 6 48 (.val (.list .nil 6 [])) (aT 23)),
aF 25 5 1,
aZ (.st 1 (aT 25) (aT 24))] [] [1, 2])
(.seq
(.reg [aF 26 6 1,
aL 27 26,
aO 28 (.len (aT 27)),
aO 29 (.mks 68 5 72 [(.int .i64 0), (.int .i64 0), (.int .i64 0), (.list .nil 3 []), (.list .nil 3 [])] (aT 28) (aT 28)),
aM 3 29] [] [1, 2, 3])
(.seq
(.seq
(.reg [aF 30 6 1,
aL 31 30,
aO 32 (.len (aT 31)),
aO 33 (.mv (.val (.int .i64 0)))] [] [1, 2, 3, 31, 32, 33])
(.blk 0 (.loop (.trim (.seq
(.reg [aO 34 (.bin .lss (aT 33) (aT 32))] [] [1, 2, 3, 31, 32, 33, 34])
(.seq
(.cond (aT 34)
(.skip)
(.ext 0))
(.seq
(.blk 1 (.seq
(.reg [aM 35 33,
aI 36 5 31 33,
aN 37 5 36,
aO 5 (.zer 68 (.agg [(.int .i64 0), (.int .i64 0), (.int .i64 0), (.list .nil 3 []), (.list .nil 3 [])])),
aM 4 35,
aZ (.st 5 (aT 5) (aT 37))] [] [1, 2, 3, 4, 5, 31, 32, 33])
(.seq
(.reg [aF 38 3 5,
aL 39 38,
aO 40 (.appp 54 3 24 (.val (.list .nil 3 [])) (aT 39)),
aF 41 3 5,
aZ (.st 1 (aT 41) (aT 40))] [] [1, 2, 3, 4, 5, 31, 32, 33])
(.seq
(.reg [aF 42 4 5,
aL 43 42,
aO 44 (.appp 54 3 24 (.val (.list .nil 3 [])) (aT 43)),
aF 45 4 5,
aZ (.st 1 (aT 45) (aT 44))] [] [1, 2, 3, 4, 5, 31, 32, 33])
(.reg [aM 46 3,
aM 47 4,
aN 48 5 5,
aI 49 5 46 47,
aZ (.st 5 (aT 49) (aT 48))] [] [1, 2, 3, 31, 32, 33])))))
(.reg [aO 50 (.bin .add (aT 33) (.val (.int .i64 1))),
aM 33 50] [] [1, 2, 3, 31, 32, 33]))))))))
(.seq
(.reg [aM 51 3,
aF 52 6 1,
aZ (.st 1 (aT 52) (aT 51))] [] [1, 2])
(.seq
(.reg [aN 53 7 1,
aZ (.st 7 (aT 2) (aT 53))] [] [2])
(.ret)))))))))⟩
theorem pf81_ok : fnOk Tryz.prog 81 pf81 = true := by kernel_rfl

/-- hinterland/hinterlandsame.Train -/
def pf83 : PFn := ⟨38, 2, [.tmp 4], .seq
(.reg [aO 2 (.boxp 68 (aT 0)),
aO 3 (.boxp 68 (aT 1)),
aO 4 (.mv (.val (.bool false)))] [] [2, 3])
(.seq
(.reg [aF 5 0 2,
aL 6 5,
aF 7 0 3,
aL 8 7,
aO 9 (.bin .eql (aT 6) (aT 8)),
aM 10 9,
bF 11 10 true 1 2,
bL 12 10 true 11,
bF 13 10 true 1 3,
bL 14 10 true 13,
bO 15 10 true (.bin .eql (aT 12) (aT 14)),
aO 16 (.pick (aT 10) (aT 15) (.val (.bool false))),
aM 17 16,
bF 18 17 true 2 2,
bL 19 17 true 18,
bF 20 17 true 2 3,
bL 21 17 true 20,
bO 22 17 true (.bin .eql (aT 19) (aT 21)),
aO 23 (.pick (aT 17) (aT 22) (.val (.bool false))),
aM 24 23,
bF 25 24 true 3 2,
bL 26 24 true 25,
bF 27 24 true 3 3,
bL 28 24 true 27,
bO 29 24 true (.call 38 .pure [(aT 26), (aT 28)]),
aO 30 (.pick (aT 24) (aT 29) (.val (.bool false))),
aM 31 30,
bF 32 31 true 4 2,
bL 33 31 true 32,
bF 34 31 true 4 3,
bL 35 31 true 34,
bO 36 31 true (.call 38 .pure [(aT 33), (aT 35)]),
aO 37 (.pick (aT 31) (aT 36) (.val (.bool false))),
aM 4 37] [] [4])
(.ret))⟩
theorem pf83_ok : fnOk Tryz.prog 83 pf83 = true := by kernel_rfl

/-- hinterland/hinterlandref16.other -/
def pf92 : PFn := ⟨20, 2, [.tmp 4], .seq
(.reg [aO 4 (.mv (.val (.int .i64 0)))] [] [0, 1])
(.seq
(.reg [aM 8 0,
aO 9 (.call 139 .pure [(aT 8)]),
aM 7 9,
aO 10 (.ext 0 (aT 7)),
aO 11 (.ext 1 (aT 7)),
aM 5 10,
aM 6 11] [] [1, 5, 6])
(.seq
(.seq
(.reg [aM 12 1,
aM 13 5,
aO 14 (.bin .eql (aT 12) (aT 13))] [] [1, 5, 6, 14])
(.cond (aT 14)
(.seq
(.reg [aM 15 6,
aM 4 15] [] [4])
(.ret))
(.skip)))
(.seq
(.seq
(.reg [aM 16 1,
aM 17 6,
aO 18 (.bin .eql (aT 16) (aT 17))] [] [5, 18])
(.cond (aT 18)
(.seq
(.reg [aM 19 5,
aM 4 19] [] [4])
(.ret))
(.skip)))
(.seq
(.reg [aO 4 (.mv (.val (.int .i64 (-1))))] [] [4])
(.ret)))))⟩
theorem pf92_ok : fnOk Tryz.prog 92 pf92 = true := by kernel_rfl

/-- hinterland/hinterlandsame.List[bool] -/
def pf103 : PFn := ⟨26, 2, [.tmp 4], .seq
(.reg [aO 4 (.mv (.val (.bool false)))] [] [0, 1])
(.seq
(.seq
(.reg [aM 6 0,
aO 7 (.len (aT 6)),
aM 8 1,
aO 9 (.len (aT 8)),
aO 10 (.bin .neq (aT 7) (aT 9))] [] [0, 1, 10])
(.cond (aT 10)
(.seq
(.reg [aO 4 (.mv (.val (.bool false)))] [] [4])
(.ret))
(.skip)))
(.seq
(.seq
(.reg [aO 5 (.mv (.val (.int .i64 0)))] [] [0, 1, 5])
(.blk 0 (.loop (.seq
(.seq
(.reg [aM 11 5,
aM 12 0,
aO 13 (.len (aT 12)),
aO 14 (.bin .lss (aT 11) (aT 13))] [] [0, 1, 5, 14])
(.cond (aT 14)
(.skip)
(.ext 0)))
(.seq
(.blk 1 (.seq
(.reg [aM 17 0,
aM 18 5,
aI 19 1 17 18,
aL 20 19,
aM 21 1,
aM 22 5,
aI 23 1 21 22,
aL 24 23,
aO 25 (.eqb true (aT 20) (aT 24))] [] [0, 1, 5, 25])
(.cond (aT 25)
(.seq
(.reg [aO 4 (.mv (.val (.bool false)))] [] [4])
(.ret))
(.skip))))
(.reg [aM 15 5,
aO 16 (.bin .add (aT 15) (.val (.int .i64 1))),
aM 5 16] [] [0, 1, 5]))))))
(.seq
(.reg [aO 4 (.mv (.val (.bool true)))] [] [4])
(.ret))))⟩
theorem pf103_ok : fnOk Tryz.prog 103 pf103 = true := by kernel_rfl

/-- hinterland/hinterlandref07.less -/
def pf111 : PFn := ⟨30, 2, [.tmp 4], .seq
(.reg [aO 2 (.boxp 75 (aT 0)),
aO 3 (.boxp 75 (aT 1)),
aO 4 (.mv (.val (.bool false)))] [] [2, 3])
(.seq
(.seq
(.reg [aF 5 0 2,
aL 6 5,
aF 7 0 3,
aL 8 7,
aO 9 (.bin .neq (aT 6) (aT 8))] [] [2, 3, 9])
(.cond (aT 9)
(.seq
(.reg [aF 10 0 2,
aL 11 10,
aF 12 0 3,
aL 13 12,
aO 14 (.bin .lss (aT 11) (aT 13)),
aM 4 14] [] [4])
(.ret))
(.skip)))
(.seq
(.seq
(.reg [aF 15 1 2,
aL 16 15,
aF 17 1 3,
aL 18 17,
aO 19 (.bin .neq (aT 16) (aT 18))] [] [2, 3, 19])
(.cond (aT 19)
(.seq
(.reg [aF 20 1 2,
aL 21 20,
aF 22 1 3,
aL 23 22,
aO 24 (.bin .lss (aT 21) (aT 23)),
aM 4 24] [] [4])
(.ret))
(.skip)))
(.seq
(.reg [aF 25 2 2,
aL 26 25,
aF 27 2 3,
aL 28 27,
aO 29 (.bin .lss (aT 26) (aT 28)),
aM 4 29] [] [4])
(.ret))))⟩
theorem pf111_ok : fnOk Tryz.prog 111 pf111 = true := by kernel_rfl

/-- hinterland/hinterlandref03.Lies -/
def pf112 : PFn := ⟨35, 3, [.tmp 6], .seq
(.reg [aO 3 (.boxp 25 (aT 0)),
aO 6 (.mv (.val (.bool false)))] [] [1, 2, 3])
(.seq
(.reg [aM 7 1,
aO 8 (.bin .geq (aT 7) (.val (.int .i64 0))),
aM 9 8,
bM 10 9 true 1,
bF 11 9 true 2 3,
bL 12 9 true 11,
bO 13 9 true (.len (aT 12)),
bO 14 9 true (.bin .lss (aT 10) (aT 13)),
aO 15 (.pick (aT 9) (aT 14) (.val (.bool false))),
aM 16 15,
bM 17 16 true 2,
bO 18 16 true (.bin .geq (aT 17) (.val (.int .i64 0))),
aO 19 (.pick (aT 16) (aT 18) (.val (.bool false))),
aM 20 19,
bM 21 20 true 2,
bO 22 20 true (.bin .lss (aT 21) (.val (.int .i64 6))),
aO 23 (.pick (aT 20) (aT 22) (.val (.bool false))),
aM 24 23,
bF 25 24 true 2 3,
bL 26 24 true 25,
bM 27 24 true 1,
bO 28 24 true (.iaS 1 (aT 26) (aT 27)),
bL 29 24 true 28,
bM 30 24 true 2,
bO 31 24 true (.bin .shr (aT 29) (aT 30)),
bO 32 24 true (.bin .and (aT 31) (.val (.int .i64 1))),
bO 33 24 true (.bin .eql (aT 32) (.val (.int .i64 1))),
aO 34 (.pick (aT 24) (aT 33) (.val (.bool false))),
aM 6 34] [] [6])
(.ret))⟩
theorem pf112_ok : fnOk Tryz.prog 112 pf112 = true := by kernel_rfl

/-- hinterland/hinterlandref03.Has -/
def pf113 : PFn := ⟨19, 2, [.tmp 4], .seq
(.reg [aO 4 (.mv (.val (.bool false)))] [] [0, 1])
(.seq
(.reg [aM 5 1,
aO 6 (.bin .geq (aT 5) (.val (.int .i64 0))),
aM 7 6,
bM 8 7 true 0,
bO 9 7 true (.call 151 .pure [(aT 8)]),
bM 10 7 true 1,
bO 11 7 true (.bin .eql (aT 9) (aT 10)),
bM 12 7 true 11,
bM 13 12 false 0,
bO 14 12 false (.call 152 .pure [(aT 13)]),
bM 15 12 false 1,
bO 16 12 false (.bin .eql (aT 14) (aT 15)),
bO 17 7 true (.pick (aT 12) (.val (.bool true)) (aT 16)),
aO 18 (.pick (aT 7) (aT 17) (.val (.bool false))),
aM 4 18] [] [4])
(.ret))⟩
theorem pf113_ok : fnOk Tryz.prog 113 pf113 = true := by kernel_rfl

/-- hinterland/hinterlandref16.less -/
def pf114 : PFn := ⟨30, 2, [.tmp 4], .seq
(.reg [aO 2 (.boxp 54 (aT 0)),
aO 3 (.boxp 54 (aT 1)),
aO 4 (.mv (.val (.bool false)))] [] [2, 3])
(.seq
(.seq
(.reg [aF 5 0 2,
aL 6 5,
aF 7 0 3,
aL 8 7,
aO 9 (.bin .neq (aT 6) (aT 8))] [] [2, 3, 9])
(.cond (aT 9)
(.seq
(.reg [aF 10 0 2,
aL 11 10,
aF 12 0 3,
aL 13 12,
aO 14 (.bin .lss (aT 11) (aT 13)),
aM 4 14] [] [4])
(.ret))
(.skip)))
(.seq
(.seq
(.reg [aF 15 1 2,
aL 16 15,
aF 17 1 3,
aL 18 17,
aO 19 (.bin .neq (aT 16) (aT 18))] [] [2, 3, 19])
(.cond (aT 19)
(.seq
(.reg [aF 20 1 2,
aL 21 20,
aF 22 1 3,
aL 23 22,
aO 24 (.bin .lss (aT 21) (aT 23)),
aM 4 24] [] [4])
(.ret))
(.skip)))
(.seq
(.reg [aF 25 2 2,
aL 26 25,
aF 27 2 3,
aL 28 27,
aO 29 (.bin .lss (aT 26) (aT 28)),
aM 4 29] [] [4])
(.ret))))⟩
theorem pf114_ok : fnOk Tryz.prog 114 pf114 = true := by kernel_rfl

/-- hinterland/hinterlandref16.follows -/
def pf115 : PFn := ⟨42, 3, [.tmp 6], .seq
(.reg [aO 3 (.boxp 30 (aT 0)),
aO 4 (.boxp 54 (aT 1)),
aO 5 (.boxp 54 (aT 2)),
aO 6 (.mv (.val (.bool false)))] [] [3, 4, 5])
(.seq
(.seq
(.reg [aF 11 0 3,
aN 12 4 11,
aN 13 3 4,
aO 14 (.call 141 .pure [(aT 12), (aT 13)]),
aO 15 (.len (aT 14)),
aO 16 (.mv (.val (.int .i64 0)))] [] [3, 4, 5, 14, 15, 16])
(.blk 0 (.loop (.trim (.seq
(.reg [aO 17 (.bin .lss (aT 16) (aT 15))] [] [3, 4, 5, 14, 15, 16, 17])
(.seq
(.cond (aT 17)
(.skip)
(.ext 0))
(.seq
(.blk 1 (.seq
(.reg [aI 18 3 14 16,
aN 19 3 18,
aO 8 (.zer 54 (.agg [(.int .i64 0), (.int .i64 0), (.int .i64 0)])),
aZ (.st 3 (aT 8) (aT 19))] [] [3, 4, 5, 8, 14, 15, 16])
(.seq
(.reg [aN 20 3 8,
aN 21 3 5,
aO 22 (.eqs false [true, true, true] (aT 20) (aT 21))] [] [3, 4, 5, 14, 15, 16, 22])
(.cond (aT 22)
(.seq
(.reg [aO 6 (.mv (.val (.bool true)))] [] [6])
(.ret))
(.skip)))))
(.reg [aO 23 (.bin .add (aT 16) (.val (.int .i64 1))),
aM 16 23] [] [3, 4, 5, 14, 15, 16]))))))))
(.seq
(.seq
(.reg [aF 24 5 3,
aL 25 24,
aO 26 (.len (aT 25)),
aO 27 (.mv (.val (.int .i64 0)))] [] [4, 5, 25, 26, 27])
(.blk 2 (.loop (.trim (.seq
(.reg [aO 28 (.bin .lss (aT 27) (aT 26))] [] [4, 5, 25, 26, 27, 28])
(.seq
(.cond (aT 28)
(.skip)
(.ext 2))
(.seq
(.blk 3 (.seq
(.reg [aI 29 6 25 27,
aN 30 6 29,
aO 10 (.zer 78 (.agg [(.int .i64 0), (.int .i64 0), (.int .i64 0), (.int .i64 0), (.int .i64 0), (.int .i64 0)])),
aZ (.st 6 (aT 10) (aT 30))] [] [4, 5, 10, 25, 26, 27])
(.seq
(.reg [aF 31 0 10,
aN 32 3 31,
aN 33 3 4,
aO 34 (.eqs false [true, true, true] (aT 32) (aT 33)),
aM 35 34,
bF 36 35 true 3 10,
bN 37 35 true 3 36,
bN 38 35 true 3 5,
bO 39 35 true (.eqs false [true, true, true] (aT 37) (aT 38)),
aO 40 (.pick (aT 35) (aT 39) (.val (.bool false)))] [] [4, 5, 25, 26, 27, 40])
(.cond (aT 40)
(.seq
(.reg [aO 6 (.mv (.val (.bool true)))] [] [6])
(.ret))
(.skip)))))
(.reg [aO 41 (.bin .add (aT 27) (.val (.int .i64 1))),
aM 27 41] [] [4, 5, 25, 26, 27]))))))))
(.seq
(.reg [aO 6 (.mv (.val (.bool false)))] [] [6])
(.ret))))⟩
theorem pf115_ok : fnOk Tryz.prog 115 pf115 = true := by kernel_rfl

/-- hinterland/hinterlandref16.Clash -/
def pf118 : PFn := ⟨38, 2, [.tmp 4], .seq
(.reg [aO 2 (.boxp 54 (aT 0)),
aO 3 (.boxp 54 (aT 1)),
aO 4 (.mv (.val (.bool false)))] [] [2, 3])
(.seq
(.seq
(.reg [aF 7 0 2,
aL 8 7,
aF 9 0 3,
aL 10 9,
aO 11 (.bin .neq (aT 8) (aT 10))] [] [2, 3, 11])
(.cond (aT 11)
(.seq
(.reg [aO 4 (.mv (.val (.bool false)))] [] [4])
(.ret))
(.skip)))
(.seq
(.reg [aF 12 1 2,
aL 13 12,
aF 14 1 3,
aL 15 14,
aO 16 (.mn (aT 13) [(aT 15)]),
aF 17 1 2,
aL 18 17,
aF 19 1 3,
aL 20 19,
aO 21 (.mx (aT 18) [(aT 20)]),
aM 5 16,
aM 6 21] [] [5, 6])
(.seq
(.reg [aM 22 5,
aO 23 (.bin .eql (aT 22) (.val (.int .i64 2))),
aM 24 23,
bM 25 24 true 6,
bO 26 24 true (.bin .eql (aT 25) (.val (.int .i64 4))),
aO 27 (.pick (aT 24) (aT 26) (.val (.bool false))),
aO 28 (.un .not (aT 27)),
aM 29 28,
bM 30 29 true 5,
bO 31 29 true (.bin .eql (aT 30) (.val (.int .i64 3))),
bM 32 29 true 31,
bM 33 32 true 6,
bO 34 32 true (.bin .eql (aT 33) (.val (.int .i64 5))),
bO 35 29 true (.pick (aT 32) (aT 34) (.val (.bool false))),
bO 36 29 true (.un .not (aT 35)),
aO 37 (.pick (aT 29) (aT 36) (.val (.bool false))),
aM 4 37] [] [4])
(.ret))))⟩
theorem pf118_ok : fnOk Tryz.prog 118 pf118 = true := by kernel_rfl

/-- hinterland/hinterlandref16.ends -/
def pf139 : PFn := ⟨15, 1, [.tmp 2, .tmp 3], .seq
(.reg [aO 2 (.mv (.val (.int .i64 0))),
aO 3 (.mv (.val (.int .i64 0)))] [] [0])
(.seq
(.seq
(.reg [aM 4 0] [] [4])
(.blk 0 (.seq
(.reg [aO 6 (.bin .eql (aT 4) (.val (.int .i64 0))),
aM 5 6] [] [4, 5])
(.cond (aT 5)
(.seq
(.reg [aO 2 (.mv (.val (.int .i64 0))),
aO 3 (.mv (.val (.int .i64 2)))] [] [2, 3])
(.ret))
(.seq
(.reg [aO 8 (.bin .eql (aT 4) (.val (.int .i64 1))),
aM 7 8] [] [4, 7])
(.cond (aT 7)
(.seq
(.reg [aO 2 (.mv (.val (.int .i64 3))),
aO 3 (.mv (.val (.int .i64 1)))] [] [2, 3])
(.ret))
(.seq
(.reg [aO 10 (.bin .eql (aT 4) (.val (.int .i64 2))),
aM 9 10] [] [4, 9])
(.cond (aT 9)
(.seq
(.reg [aO 2 (.mv (.val (.int .i64 0))),
aO 3 (.mv (.val (.int .i64 1)))] [] [2, 3])
(.ret))
(.seq
(.reg [aO 12 (.bin .eql (aT 4) (.val (.int .i64 3))),
aM 11 12] [] [4, 11])
(.cond (aT 11)
(.seq
(.reg [aO 2 (.mv (.val (.int .i64 1))),
aO 3 (.mv (.val (.int .i64 2)))] [] [2, 3])
(.ret))
(.seq
(.reg [aO 14 (.bin .eql (aT 4) (.val (.int .i64 4))),
aM 13 14] [] [13])
(.cond (aT 13)
(.seq
(.reg [aO 2 (.mv (.val (.int .i64 2))),
aO 3 (.mv (.val (.int .i64 3)))] [] [2, 3])
(.ret))
(.skip)))))))))))))
(.seq
(.reg [aO 2 (.mv (.val (.int .i64 3))),
aO 3 (.mv (.val (.int .i64 0)))] [] [2, 3])
(.ret)))⟩
theorem pf139_ok : fnOk Tryz.prog 139 pf139 = true := by kernel_rfl

/-- hinterland/hinterlandref16.on -/
def pf141 : PFn := ⟨52, 2, [.tmp 4], .seq
(.reg [aO 2 (.boxp 25 (aT 0)),
aO 3 (.boxp 54 (aT 1)),
aO 4 (.mv (.val (.list .nil 3 [])))] [] [2, 3])
(.seq
(.reg [aF 9 0 2,
aL 10 9,
aF 11 1 2,
aL 12 11,
aF 13 0 3,
aL 14 13,
aF 15 2 3,
aL 16 15,
aO 17 (.call 161 .pure [(aT 10), (aT 12), (aT 14), (aT 16)]),
aM 5 17] [] [2, 3, 5])
(.seq
(.seq
(.reg [aM 18 5,
aO 19 (.bin .lss (aT 18) (.val (.int .i64 0)))] [] [2, 3, 5, 19])
(.cond (aT 19)
(.seq
(.reg [aO 4 (.mv (.val (.list .nil 3 [])))] [] [4])
(.ret))
(.skip)))
(.seq
(.reg [aO 6 (.nacc 54 3)] [] [2, 3, 5, 6])
(.seq
(.seq
(.reg [aO 20 (.mv (.val (.int .i64 0)))] [] [2, 3, 5, 6, 20])
(.blk 0 (.loop (.seq
(.reg [aO 21 (.bin .lss (aT 20) (.val (.int .i64 6)))] [] [2, 3, 5, 6, 20, 21])
(.seq
(.cond (aT 21)
(.skip)
(.ext 0))
(.seq
(.blk 1 (.seq
(.reg [aM 22 20,
aM 7 22] [] [2, 3, 5, 6, 7, 20])
(.seq
(.reg [aM 23 7,
aF 24 2 3,
aL 25 24,
aO 26 (.bin .add (aT 25) (.val (.int .i64 2))),
aO 27 (.bin .rem (aT 26) (.val (.int .i64 4))),
aO 28 (.call 92 .pure [(aT 23), (aT 27)]),
aM 8 28] [] [2, 3, 5, 6, 7, 8, 20])
(.seq
(.reg [aF 29 2 2,
aL 30 29,
aM 31 5,
aI 32 1 30 31,
aL 33 32,
aM 34 7,
aO 35 (.conv .u64 (aT 34)),
aO 36 (.bin .shr (aT 33) (aT 35)),
aO 37 (.bin .rem (aT 36) (.val (.int .i64 2))),
aO 38 (.bin .eql (aT 37) (.val (.int .i64 1))),
aM 39 38,
bM 40 39 true 8,
bO 41 39 true (.bin .geq (aT 40) (.val (.int .i64 0))),
aO 42 (.pick (aT 39) (aT 41) (.val (.bool false)))] [] [2, 3, 5, 6, 7, 8, 20, 42])
(.cond (aT 42)
(.reg [aM 43 6,
aM 44 5,
aM 45 7,
aM 46 8,
aO 47 (.bld [(.int .i64 0), (.int .i64 0), (.int .i64 0)] [(0, 1, (aT 44)), (1, 1, (aT 45)), (2, 1, (aT 46))]),
aO 48 (.bsl 1 3 [(.int .i64 0), (.int .i64 0), (.int .i64 0)] [(0, 3, (aT 47))]),
aO 49 (.app 54 3 24 (aT 43) (aT 48)),
aM 6 49] [] [2, 3, 5, 6, 20])
(.skip))))))
(.reg [aO 50 (.bin .add (aT 20) (.val (.int .i64 1))),
aM 20 50] [] [2, 3, 5, 6, 20])))))))
(.seq
(.reg [aM 51 6,
aM 4 51] [] [4])
(.ret))))))⟩
theorem pf141_ok : fnOk Tryz.prog 141 pf141 = true := by kernel_rfl

/-- hinterland/hinterlandref03.first -/
def pf151 : PFn := ⟨14, 1, [.tmp 2], .seq
(.reg [aO 2 (.mv (.val (.int .i64 0)))] [] [0])
(.seq
(.seq
(.reg [aM 3 0] [] [3])
(.blk 0 (.seq
(.seq
(.reg [aO 5 (.bin .eql (aT 3) (.val (.int .i64 0))),
aM 4 5] [] [3, 4])
(.cond (aT 4)
(.skip)
(.reg [aO 6 (.bin .eql (aT 3) (.val (.int .i64 2))),
aM 4 6] [] [3, 4])))
(.cond (aT 4)
(.seq
(.reg [aO 2 (.mv (.val (.int .i64 0)))] [] [2])
(.ret))
(.seq
(.seq
(.reg [aO 8 (.bin .eql (aT 3) (.val (.int .i64 1))),
aM 7 8] [] [3, 7])
(.cond (aT 7)
(.skip)
(.reg [aO 9 (.bin .eql (aT 3) (.val (.int .i64 3))),
aM 7 9] [] [3, 7])))
(.cond (aT 7)
(.seq
(.reg [aO 2 (.mv (.val (.int .i64 1)))] [] [2])
(.ret))
(.seq
(.reg [aO 11 (.bin .eql (aT 3) (.val (.int .i64 4))),
aM 10 11] [] [3, 10])
(.cond (aT 10)
(.seq
(.reg [aO 2 (.mv (.val (.int .i64 2)))] [] [2])
(.ret))
(.seq
(.reg [aO 13 (.bin .eql (aT 3) (.val (.int .i64 5))),
aM 12 13] [] [12])
(.cond (aT 12)
(.seq
(.reg [aO 2 (.mv (.val (.int .i64 3)))] [] [2])
(.ret))
(.skip)))))))))))
(.seq
(.reg [aO 2 (.mv (.val (.int .i64 (-1))))] [] [2])
(.ret)))⟩
theorem pf151_ok : fnOk Tryz.prog 151 pf151 = true := by kernel_rfl

/-- hinterland/hinterlandref03.second -/
def pf152 : PFn := ⟨14, 1, [.tmp 2], .seq
(.reg [aO 2 (.mv (.val (.int .i64 0)))] [] [0])
(.seq
(.seq
(.reg [aM 3 0] [] [3])
(.blk 0 (.seq
(.seq
(.reg [aO 5 (.bin .eql (aT 3) (.val (.int .i64 0))),
aM 4 5] [] [3, 4])
(.cond (aT 4)
(.skip)
(.reg [aO 6 (.bin .eql (aT 3) (.val (.int .i64 3))),
aM 4 6] [] [3, 4])))
(.cond (aT 4)
(.seq
(.reg [aO 2 (.mv (.val (.int .i64 2)))] [] [2])
(.ret))
(.seq
(.seq
(.reg [aO 8 (.bin .eql (aT 3) (.val (.int .i64 1))),
aM 7 8] [] [3, 7])
(.cond (aT 7)
(.skip)
(.reg [aO 9 (.bin .eql (aT 3) (.val (.int .i64 4))),
aM 7 9] [] [3, 7])))
(.cond (aT 7)
(.seq
(.reg [aO 2 (.mv (.val (.int .i64 3)))] [] [2])
(.ret))
(.seq
(.reg [aO 11 (.bin .eql (aT 3) (.val (.int .i64 2))),
aM 10 11] [] [3, 10])
(.cond (aT 10)
(.seq
(.reg [aO 2 (.mv (.val (.int .i64 1)))] [] [2])
(.ret))
(.seq
(.reg [aO 13 (.bin .eql (aT 3) (.val (.int .i64 5))),
aM 12 13] [] [12])
(.cond (aT 12)
(.seq
(.reg [aO 2 (.mv (.val (.int .i64 0)))] [] [2])
(.ret))
(.skip)))))))))))
(.seq
(.reg [aO 2 (.mv (.val (.int .i64 (-1))))] [] [2])
(.ret)))⟩
theorem pf152_ok : fnOk Tryz.prog 152 pf152 = true := by kernel_rfl

/-- hinterland/hinterlandref02.Beyond -/
def pf161 : PFn := ⟨55, 4, [.tmp 8], .seq
(.reg [aO 8 (.mv (.val (.int .i64 0)))] [] [0, 1, 2, 3])
(.seq
(.reg [aM 11 2,
aM 12 0,
aO 13 (.bin .rem (aT 11) (aT 12)),
aM 14 2,
aM 15 0,
aO 16 (.bin .quo (aT 14) (aT 15)),
aM 9 13,
aM 10 16] [] [0, 1, 3, 9, 10])
(.seq
(.seq
(.reg [aM 17 3] [] [0, 1, 9, 10, 17])
(.blk 0 (.seq
(.reg [aO 19 (.bin .eql (aT 17) (.val (.int .i64 0))),
aM 18 19] [] [0, 1, 9, 10, 17, 18])
(.cond (aT 18)
(.reg [aM 20 9,
aO 21 (.bin .add (aT 20) (.val (.int .i64 1))),
aM 9 21] [] [0, 1, 9, 10])
(.seq
(.reg [aO 23 (.bin .eql (aT 17) (.val (.int .i64 1))),
aM 22 23] [] [0, 1, 9, 10, 17, 22])
(.cond (aT 22)
(.reg [aM 24 10,
aO 25 (.bin .add (aT 24) (.val (.int .i64 1))),
aM 10 25] [] [0, 1, 9, 10])
(.seq
(.reg [aO 27 (.bin .eql (aT 17) (.val (.int .i64 2))),
aM 26 27] [] [0, 1, 9, 10, 17, 26])
(.cond (aT 26)
(.reg [aM 28 9,
aO 29 (.bin .sub (aT 28) (.val (.int .i64 1))),
aM 9 29] [] [0, 1, 9, 10])
(.seq
(.reg [aO 31 (.bin .eql (aT 17) (.val (.int .i64 3))),
aM 30 31] [] [0, 1, 9, 10, 30])
(.cond (aT 30)
(.reg [aM 32 10,
aO 33 (.bin .sub (aT 32) (.val (.int .i64 1))),
aM 10 33] [] [0, 1, 9, 10])
(.skip)))))))))))
(.seq
(.seq
(.reg [aM 34 9,
aO 35 (.bin .lss (aT 34) (.val (.int .i64 0))),
aM 36 35,
bM 37 36 false 10,
bO 38 36 false (.bin .lss (aT 37) (.val (.int .i64 0))),
aO 39 (.pick (aT 36) (.val (.bool true)) (aT 38)),
aM 40 39,
bM 41 40 false 9,
bM 42 40 false 0,
bO 43 40 false (.bin .geq (aT 41) (aT 42)),
aO 44 (.pick (aT 40) (.val (.bool true)) (aT 43)),
aM 45 44,
bM 46 45 false 10,
bM 47 45 false 1,
bO 48 45 false (.bin .geq (aT 46) (aT 47)),
aO 49 (.pick (aT 45) (.val (.bool true)) (aT 48))] [] [0, 9, 10, 49])
(.cond (aT 49)
(.seq
(.reg [aO 8 (.mv (.val (.int .i64 (-1))))] [] [8])
(.ret))
(.skip)))
(.seq
(.reg [aM 50 10,
aM 51 0,
aO 52 (.bin .mul (aT 50) (aT 51)),
aM 53 9,
aO 54 (.bin .add (aT 52) (aT 53)),
aM 8 54] [] [8])
(.ret)))))⟩
theorem pf161_ok : fnOk Tryz.prog 161 pf161 = true := by kernel_rfl

/-- hinterland/hinterlandref03.Beyond -/
def pf166 : PFn := ⟨55, 4, [.tmp 8], .seq
(.reg [aO 8 (.mv (.val (.int .i64 0)))] [] [0, 1, 2, 3])
(.seq
(.reg [aM 11 2,
aM 12 0,
aO 13 (.bin .rem (aT 11) (aT 12)),
aM 14 2,
aM 15 0,
aO 16 (.bin .quo (aT 14) (aT 15)),
aM 9 13,
aM 10 16] [] [0, 1, 3, 9, 10])
(.seq
(.seq
(.reg [aM 17 3] [] [0, 1, 9, 10, 17])
(.blk 0 (.seq
(.reg [aO 19 (.bin .eql (aT 17) (.val (.int .i64 0))),
aM 18 19] [] [0, 1, 9, 10, 17, 18])
(.cond (aT 18)
(.reg [aM 20 9,
aO 21 (.bin .add (aT 20) (.val (.int .i64 1))),
aM 9 21] [] [0, 1, 9, 10])
(.seq
(.reg [aO 23 (.bin .eql (aT 17) (.val (.int .i64 1))),
aM 22 23] [] [0, 1, 9, 10, 17, 22])
(.cond (aT 22)
(.reg [aM 24 10,
aO 25 (.bin .add (aT 24) (.val (.int .i64 1))),
aM 10 25] [] [0, 1, 9, 10])
(.seq
(.reg [aO 27 (.bin .eql (aT 17) (.val (.int .i64 2))),
aM 26 27] [] [0, 1, 9, 10, 17, 26])
(.cond (aT 26)
(.reg [aM 28 9,
aO 29 (.bin .sub (aT 28) (.val (.int .i64 1))),
aM 9 29] [] [0, 1, 9, 10])
(.seq
(.reg [aO 31 (.bin .eql (aT 17) (.val (.int .i64 3))),
aM 30 31] [] [0, 1, 9, 10, 30])
(.cond (aT 30)
(.reg [aM 32 10,
aO 33 (.bin .sub (aT 32) (.val (.int .i64 1))),
aM 10 33] [] [0, 1, 9, 10])
(.skip)))))))))))
(.seq
(.seq
(.reg [aM 34 9,
aO 35 (.bin .lss (aT 34) (.val (.int .i64 0))),
aM 36 35,
bM 37 36 false 9,
bM 38 36 false 0,
bO 39 36 false (.bin .geq (aT 37) (aT 38)),
aO 40 (.pick (aT 36) (.val (.bool true)) (aT 39)),
aM 41 40,
bM 42 41 false 10,
bO 43 41 false (.bin .lss (aT 42) (.val (.int .i64 0))),
aO 44 (.pick (aT 41) (.val (.bool true)) (aT 43)),
aM 45 44,
bM 46 45 false 10,
bM 47 45 false 1,
bO 48 45 false (.bin .geq (aT 46) (aT 47)),
aO 49 (.pick (aT 45) (.val (.bool true)) (aT 48))] [] [0, 9, 10, 49])
(.cond (aT 49)
(.seq
(.reg [aO 8 (.mv (.val (.int .i64 (-1))))] [] [8])
(.ret))
(.skip)))
(.seq
(.reg [aM 50 10,
aM 51 0,
aO 52 (.bin .mul (aT 50) (aT 51)),
aM 53 9,
aO 54 (.bin .add (aT 52) (aT 53)),
aM 8 54] [] [8])
(.ret)))))⟩
theorem pf166_ok : fnOk Tryz.prog 166 pf166 = true := by kernel_rfl

end Go.Proofs.YtiaeckidlmoohaaGreat
