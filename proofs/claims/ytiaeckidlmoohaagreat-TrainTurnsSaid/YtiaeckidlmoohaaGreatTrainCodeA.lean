/- PCode of functions, written by wip/tools/gen.py out of the loaded functions' print. -/
import Derived.Test.YtiaeckidlmoohaaGreatPmTwentyFive
import Derived.Test.YtiaeckidlmoohaaGreatPmTwentySeven
import Derived.Test.YtiaeckidlmoohaaGreatProg
import Derived.KernelRfl
import Derived.Test.YtiaeckidlmoohaaGreatTrainAbb
set_option maxRecDepth 100000
namespace Go.Proofs.YtiaeckidlmoohaaGreat
open Go.Proofs.YtiaeckidlmoohaaGreat.PM

/-- hinterland/hinterlandlaw16.TrainRings -/
def pf7 : PFn := ⟨32, 1, [.tmp 2], .seq
(.reg [aO 2 (.mv (.val (.bool false)))] [] [0])
(.seq
(.seq
(.reg [aM 7 0,
aO 8 (.len (aT 7)),
aO 9 (.bin .gtr (aT 8) (.val (.int .i64 1100)))] [] [0, 9])
(.cond (aT 9)
(.seq
(.reg [aO 10 (.call 20 .pure []),
aM 2 10] [] [2])
(.ret))
(.skip)))
(.seq
(.reg [aM 12 0,
aO 13 (.call 31 .pure [(aT 12)]),
aM 11 13,
aO 14 (.ext 0 (aT 11)),
aO 15 (.ext 1 (aT 11)),
aM 3 14,
aM 4 15] [] [0, 3, 4])
(.seq
(.reg [aM 17 0,
aO 18 (.call 32 .pure [(aT 17)]),
aM 16 18,
aO 19 (.ext 0 (aT 16)),
aO 20 (.ext 1 (aT 16)),
aM 5 19,
aM 6 20] [] [3, 4, 5, 6])
(.seq
(.reg [aM 21 4,
aM 22 6,
aO 23 (.bin .eql (aT 21) (aT 22)),
aM 24 23,
bM 25 24 true 3,
bM 26 24 true 5,
bO 27 24 true (.call 30 .pure [(aT 25), (aT 26)]),
aO 28 (.pick (aT 24) (aT 27) (.val (.bool false))),
aM 29 28,
bO 30 29 true (.call 20 .pure []),
aO 31 (.pick (aT 29) (aT 30) (.val (.bool false))),
aM 2 31] [] [2])
(.ret)))))⟩
theorem pf7_ok : fnOk Tryz.prog 7 pf7 = true := by kernel_rfl

/-- hinterland/hinterlandlaw16.TrainRingsClosed -/
def pf8 : PFn := ⟨82, 1, [.tmp 2], .seq
(.reg [aO 2 (.mv (.val (.bool false)))] [] [0])
(.seq
(.seq
(.reg [aM 8 0,
aO 9 (.len (aT 8)),
aO 10 (.bin .gtr (aT 9) (.val (.int .i64 1100)))] [] [0, 10])
(.cond (aT 10)
(.seq
(.reg [aO 11 (.call 20 .pure []),
aM 2 11] [] [2])
(.ret))
(.skip)))
(.seq
(.reg [aM 13 0,
aO 14 (.call 31 .pure [(aT 13)]),
aM 12 14,
aO 15 (.ext 0 (aT 12)),
aO 16 (.ext 1 (aT 12)),
aM 3 15,
aM 4 16] [] [0, 3, 4])
(.seq
(.seq
(.reg [aM 17 4,
aO 18 (.bin .neq (aT 17) (.val (.int .i64 0)))] [] [0, 3, 18])
(.cond (aT 18)
(.seq
(.reg [aM 19 3,
aO 20 (.len (aT 19)),
aO 21 (.bin .eql (aT 20) (.val (.int .i64 0))),
aM 22 21,
bO 23 22 true (.call 20 .pure []),
aO 24 (.pick (aT 22) (aT 23) (.val (.bool false))),
aM 2 24] [] [2])
(.ret))
(.skip)))
(.seq
(.reg [aM 25 0,
aO 26 (.len (aT 25)),
aO 27 (.mks 4 1 1 [(.bool false)] (aT 26) (aT 26)),
aM 5 27] [] [0, 3, 5])
(.seq
(.seq
(.reg [aM 28 3,
aO 29 (.len (aT 28)),
aO 30 (.mv (.val (.int .i64 0)))] [] [0, 3, 5, 28, 29, 30])
(.blk 0 (.loop (.seq
(.reg [aO 31 (.bin .lss (aT 30) (aT 29))] [] [0, 3, 5, 28, 29, 30, 31])
(.seq
(.cond (aT 31)
(.skip)
(.ext 0))
(.seq
(.blk 1 (.seq
(.reg [aM 32 30,
aI 33 1 28 30,
aL 34 33,
aM 6 32,
aM 7 34] [] [0, 3, 5, 6, 7, 28, 29, 30])
(.seq
(.seq
(.reg [aM 35 7,
aO 36 (.bin .lss (aT 35) (.val (.int .i64 0))),
aM 37 36,
bM 38 37 false 7,
bM 39 37 false 0,
bO 40 37 false (.len (aT 39)),
bO 41 37 false (.bin .geq (aT 38) (aT 40)),
aO 42 (.pick (aT 37) (.val (.bool true)) (aT 41)),
aM 43 42,
bM 44 43 false 6,
bO 45 43 false (.bin .gtr (aT 44) (.val (.int .i64 0))),
bM 46 43 false 45,
bM 47 46 true 3,
bM 48 46 true 6,
bO 49 46 true (.bin .sub (aT 48) (.val (.int .i64 1))),
bO 50 46 true (.iaS 1 (aT 47) (aT 49)),
bL 51 46 true 50,
bM 52 46 true 7,
bO 53 46 true (.bin .geq (aT 51) (aT 52)),
bO 54 43 false (.pick (aT 46) (aT 53) (.val (.bool false))),
aO 55 (.pick (aT 43) (.val (.bool true)) (aT 54)),
aM 56 55,
bM 57 56 false 3,
bM 58 56 false 0,
bM 59 56 false 7,
bO 60 56 false (.iaS 1 (aT 58) (aT 59)),
bL 61 56 false 60,
bO 62 56 false (.call 33 .pure [(aT 57), (aT 61)]),
bO 63 56 false (.un .not (aT 62)),
aO 64 (.pick (aT 56) (.val (.bool true)) (aT 63)),
aM 65 64,
bM 66 65 false 5,
bM 67 65 false 0,
bM 68 65 false 7,
bO 69 65 false (.iaS 1 (aT 67) (aT 68)),
bL 70 65 false 69,
bO 71 65 false (.iaS 1 (aT 66) (aT 70)),
bL 72 65 false 71,
aO 73 (.pick (aT 65) (.val (.bool true)) (aT 72))] [] [0, 3, 5, 7, 28, 29, 30, 73])
(.cond (aT 73)
(.seq
(.reg [aO 2 (.mv (.val (.bool false)))] [] [2])
(.ret))
(.skip)))
(.reg [aM 74 5,
aM 75 0,
aM 76 7,
aI 77 1 75 76,
aL 78 77,
aI 79 1 74 78,
aZ (.st 1 (aT 79) (.val (.bool true)))] [] [0, 3, 5, 28, 29, 30]))))
(.reg [aO 80 (.bin .add (aT 30) (.val (.int .i64 1))),
aM 30 80] [] [0, 3, 5, 28, 29, 30])))))))
(.seq
(.reg [aO 81 (.call 20 .pure []),
aM 2 81] [] [2])
(.ret)))))))⟩
theorem pf8_ok : fnOk Tryz.prog 8 pf8 = true := by kernel_rfl

/-- hinterland/hinterlandlaw16.known -/
def pf20 : PFn := ⟨58, 0, [.tmp 0], .seq
(.reg [aO 0 (.mv (.val (.bool false)))] [] [])
(.seq
(.reg [aO 8 (.call 53 .pure []),
aO 9 (.bsl 2 1 [(.list .nil 1 [])] [(0, 1, (.val (.list .nil 1 []))), (1, 1, (.val (.list .nil 1 [])))]),
aO 10 (.call 28 .pure [(aT 8), (aT 9)]),
aM 7 10,
aO 11 (.ext 0 (aT 7)),
aO 12 (.ext 1 (aT 7)),
aM 1 11,
aM 2 12] [] [1, 2])
(.seq
(.reg [aO 14 (.bsl 2 1 [(.int .i64 0)] [(0, 1, (.val (.int .i64 1))), (1, 1, (.val (.int .i64 0)))]),
aO 15 (.call 31 .pure [(aT 14)]),
aM 13 15,
aO 16 (.ext 0 (aT 13)),
aO 17 (.ext 1 (aT 13)),
aM 3 16,
aM 4 17] [] [1, 2, 3, 4])
(.seq
(.reg [aO 19 (.call 53 .pure []),
aO 20 (.call 23 .pure [(aT 19)]),
aM 18 20,
aO 21 (.ext 0 (aT 18)),
aO 22 (.ext 1 (aT 18)),
aM 5 21,
aM 6 22] [] [1, 2, 3, 4, 5, 6])
(.seq
(.reg [aM 23 2,
aO 24 (.bin .eql (aT 23) (.val (.int .i64 0))),
aM 25 24,
bM 26 25 true 1,
bO 27 25 true (.len (aT 26)),
bO 28 25 true (.bin .eql (aT 27) (.val (.int .i64 2))),
aO 29 (.pick (aT 25) (aT 28) (.val (.bool false))),
aM 30 29,
bM 31 30 true 4,
bO 32 30 true (.bin .eql (aT 31) (.val (.int .i64 0))),
aO 33 (.pick (aT 30) (aT 32) (.val (.bool false))),
aM 34 33,
bM 35 34 true 3,
bO 36 34 true (.len (aT 35)),
bO 37 34 true (.bin .eql (aT 36) (.val (.int .i64 2))),
aO 38 (.pick (aT 34) (aT 37) (.val (.bool false))),
aM 39 38,
bM 40 39 true 3,
bO 41 39 true (.iaS 1 (aT 40) (.val (.int .i64 0))),
bL 42 39 true 41,
bO 43 39 true (.bin .eql (aT 42) (.val (.int .i64 0))),
aO 44 (.pick (aT 39) (aT 43) (.val (.bool false))),
aM 45 44,
bM 46 45 true 3,
bO 47 45 true (.iaS 1 (aT 46) (.val (.int .i64 1))),
bL 48 45 true 47,
bO 49 45 true (.bin .eql (aT 48) (.val (.int .i64 1))),
aO 50 (.pick (aT 45) (aT 49) (.val (.bool false))),
aM 51 50,
bM 52 51 true 5,
aO 53 (.pick (aT 51) (aT 52) (.val (.bool false))),
aM 54 53,
bM 55 54 true 6,
bO 56 54 true (.bin .eql (aT 55) (.val (.int .i64 0))),
aO 57 (.pick (aT 54) (aT 56) (.val (.bool false))),
aM 0 57] [] [0])
(.ret)))))⟩
theorem pf20_ok : fnOk Tryz.prog 20 pf20 = true := by kernel_rfl

/-- hinterland/train.Validate -/
def pf21 : PFn := ⟨140, 1, [.tmp 2], .seq
(.reg [aO 1 (.boxp 30 (aT 0)),
aO 2 (.mv (.val (.int .i64 0)))] [] [1])
(.seq
(.seq
(.reg [aF 17 0 1,
aN 18 4 17,
aF 19 4 1,
aL 20 19,
aO 21 (.call 54 .pure [(aT 18), (aT 20)]),
aM 3 21] [] [1, 3])
(.seq
(.reg [aM 22 3,
aO 23 (.bin .neq (aT 22) (.val (.int .i64 0)))] [] [1, 3, 23])
(.cond (aT 23)
(.seq
(.reg [aM 24 3,
aM 2 24] [] [2])
(.ret))
(.skip))))
(.seq
(.seq
(.reg [aF 25 5 1,
aL 26 25,
aO 27 (.len (aT 26)),
aO 28 (.bin .gtr (aT 27) (.val (.int .i64 80))),
aM 29 28,
bF 30 29 false 6 1,
bL 31 29 false 30,
bO 32 29 false (.len (aT 31)),
bO 33 29 false (.bin .gtr (aT 32) (.val (.int .i64 60))),
aO 34 (.pick (aT 29) (.val (.bool true)) (aT 33))] [] [1, 34])
(.cond (aT 34)
(.seq
(.reg [aO 2 (.mv (.val (.int .i64 4)))] [] [2])
(.ret))
(.skip)))
(.seq
(.seq
(.reg [aF 35 5 1,
aL 36 35,
aO 37 (.len (aT 36)),
aO 38 (.mv (.val (.int .i64 0)))] [] [1, 36, 37, 38])
(.blk 0 (.loop (.trim (.seq
(.reg [aO 39 (.bin .lss (aT 38) (aT 37))] [] [1, 36, 37, 38, 39])
(.seq
(.cond (aT 39)
(.skip)
(.ext 0))
(.seq
(.blk 1 (.seq
(.reg [aM 40 38,
aI 41 6 36 38,
aN 42 6 41,
aO 5 (.zer 78 (.agg [(.int .i64 0), (.int .i64 0), (.int .i64 0), (.int .i64 0), (.int .i64 0), (.int .i64 0)])),
aM 4 40,
aZ (.st 6 (aT 5) (aT 42))] [] [1, 4, 5, 36, 37, 38])
(.seq
(.reg [aM 43 4,
aO 44 (.bin .gtr (aT 43) (.val (.int .i64 0))),
aM 45 44,
bF 46 45 true 5 1,
bL 47 45 true 46,
bM 48 45 true 4,
bO 49 45 true (.bin .sub (aT 48) (.val (.int .i64 1))),
bO 50 45 true (.iaS 6 (aT 47) (aT 49)),
bF 51 45 true 0 50,
bN 52 45 true 3 51,
bF 53 45 true 0 5,
bN 54 45 true 3 53,
bO 55 45 true (.call 56 .pure [(aT 52), (aT 54)]),
bF 56 45 true 5 1,
bL 57 45 true 56,
bM 58 45 true 4,
bO 59 45 true (.bin .sub (aT 58) (.val (.int .i64 1))),
bO 60 45 true (.iaS 6 (aT 57) (aT 59)),
bF 61 45 true 3 60,
bN 62 45 true 3 61,
bF 63 45 true 3 5,
bN 64 45 true 3 63,
bO 65 45 true (.call 56 .pure [(aT 62), (aT 64)]),
bO 66 45 true (.bsl 2 1 [(.int .i64 0)] [(0, 1, (aT 55)), (1, 1, (aT 65))]),
bO 67 45 true (.call 55 .pure [(aT 66)]),
bO 68 45 true (.bin .geq (aT 67) (.val (.int .i64 0))),
aO 69 (.pick (aT 45) (aT 68) (.val (.bool false)))] [] [1, 36, 37, 38, 69])
(.cond (aT 69)
(.seq
(.reg [aO 2 (.mv (.val (.int .i64 1)))] [] [2])
(.ret))
(.skip)))))
(.reg [aO 70 (.bin .add (aT 38) (.val (.int .i64 1))),
aM 38 70] [] [1, 36, 37, 38]))))))))
(.seq
(.seq
(.reg [aF 71 6 1,
aL 72 71,
aO 73 (.len (aT 72)),
aO 74 (.mv (.val (.int .i64 0)))] [] [1, 72, 73, 74])
(.blk 2 (.loop (.trim (.seq
(.reg [aO 75 (.bin .lss (aT 74) (aT 73))] [] [1, 72, 73, 74, 75])
(.seq
(.cond (aT 75)
(.skip)
(.ext 2))
(.seq
(.blk 3 (.seq
(.reg [aI 76 5 72 74,
aN 77 5 76,
aO 7 (.zer 68 (.agg [(.int .i64 0), (.int .i64 0), (.int .i64 0), (.list .nil 3 []), (.list .nil 3 [])])),
aZ (.st 5 (aT 7) (aT 77))] [] [1, 7, 72, 73, 74])
(.seq
(.reg [aN 78 5 7,
aO 79 (.call 57 .pure [(aT 78)]),
aO 80 (.un .not (aT 79))] [] [1, 72, 73, 74, 80])
(.cond (aT 80)
(.seq
(.reg [aO 2 (.mv (.val (.int .i64 1)))] [] [2])
(.ret))
(.skip)))))
(.reg [aO 81 (.bin .add (aT 74) (.val (.int .i64 1))),
aM 74 81] [] [1, 72, 73, 74]))))))))
(.seq
(.seq
(.reg [aF 82 5 1,
aL 83 82,
aO 84 (.len (aT 83)),
aO 85 (.mv (.val (.int .i64 0)))] [] [1, 83, 84, 85])
(.blk 4 (.loop (.trim (.seq
(.reg [aO 86 (.bin .lss (aT 85) (aT 84))] [] [1, 83, 84, 85, 86])
(.seq
(.cond (aT 86)
(.skip)
(.ext 4))
(.seq
(.blk 5 (.seq
(.reg [aI 87 6 83 85,
aN 88 6 87,
aO 9 (.zer 78 (.agg [(.int .i64 0), (.int .i64 0), (.int .i64 0), (.int .i64 0), (.int .i64 0), (.int .i64 0)])),
aZ (.st 6 (aT 9) (aT 88))] [] [1, 9, 83, 84, 85])
(.seq
(.reg [aF 89 0 1,
aN 90 4 89,
aF 91 0 9,
aN 92 3 91,
aO 93 (.call 58 .pure [(aT 90), (aT 92)]),
aO 94 (.un .not (aT 93)),
aM 95 94,
bF 96 95 false 0 1,
bN 97 95 false 4 96,
bF 98 95 false 3 9,
bN 99 95 false 3 98,
bO 100 95 false (.call 58 .pure [(aT 97), (aT 99)]),
bO 101 95 false (.un .not (aT 100)),
aO 102 (.pick (aT 95) (.val (.bool true)) (aT 101))] [] [1, 83, 84, 85, 102])
(.cond (aT 102)
(.seq
(.reg [aO 2 (.mv (.val (.int .i64 2)))] [] [2])
(.ret))
(.skip)))))
(.reg [aO 103 (.bin .add (aT 85) (.val (.int .i64 1))),
aM 85 103] [] [1, 83, 84, 85]))))))))
(.seq
(.seq
(.reg [aF 104 6 1,
aL 105 104,
aO 106 (.len (aT 105)),
aO 107 (.mv (.val (.int .i64 0)))] [] [1, 105, 106, 107])
(.blk 6 (.loop (.trim (.seq
(.reg [aO 108 (.bin .lss (aT 107) (aT 106))] [] [1, 105, 106, 107, 108])
(.seq
(.cond (aT 108)
(.skip)
(.ext 6))
(.seq
(.blk 7 (.seq
(.reg [aI 109 5 105 107,
aN 110 5 109,
aO 11 (.zer 68 (.agg [(.int .i64 0), (.int .i64 0), (.int .i64 0), (.list .nil 3 []), (.list .nil 3 [])])),
aZ (.st 5 (aT 11) (aT 110))] [] [1, 11, 105, 106, 107])
(.seq
(.reg [aN 111 5 11,
aO 112 (.call 59 .pure [(aT 111)]),
aO 113 (.len (aT 112)),
aO 114 (.mv (.val (.int .i64 0)))] [] [1, 105, 106, 107, 112, 113, 114])
(.blk 8 (.loop (.trim (.seq
(.reg [aO 115 (.bin .lss (aT 114) (aT 113))] [] [1, 105, 106, 107, 112, 113, 114, 115])
(.seq
(.cond (aT 115)
(.skip)
(.ext 8))
(.seq
(.blk 9 (.seq
(.reg [aI 116 3 112 114,
aN 117 3 116,
aO 13 (.zer 54 (.agg [(.int .i64 0), (.int .i64 0), (.int .i64 0)])),
aZ (.st 3 (aT 13) (aT 117))] [] [1, 13, 105, 106, 107, 112, 113, 114])
(.seq
(.reg [aF 118 0 1,
aN 119 4 118,
aN 120 3 13,
aO 121 (.call 58 .pure [(aT 119), (aT 120)]),
aO 122 (.un .not (aT 121))] [] [1, 105, 106, 107, 112, 113, 114, 122])
(.cond (aT 122)
(.seq
(.reg [aO 2 (.mv (.val (.int .i64 2)))] [] [2])
(.ret))
(.skip)))))
(.reg [aO 123 (.bin .add (aT 114) (.val (.int .i64 1))),
aM 114 123] [] [1, 105, 106, 107, 112, 113, 114]))))))))))
(.reg [aO 124 (.bin .add (aT 107) (.val (.int .i64 1))),
aM 107 124] [] [1, 105, 106, 107]))))))))
(.seq
(.reg [aN 125 7 1,
aO 126 (.call 60 .pure [(aT 125)]),
aO 14 (.zer 90 (.agg [(.int .i64 0), (.int .i64 0), (.list .nil 1 []), (.list .nil 1 []), (.list .nil 4 []), (.list .nil 6 []), (.list .nil 5 []), .nilmap, .nilmap])),
aZ (.st 9 (aT 14) (aT 126))] [] [1, 14])
(.seq
(.seq
(.reg [aF 127 6 1,
aL 128 127,
aO 129 (.len (aT 128)),
aO 130 (.mv (.val (.int .i64 0)))] [] [14, 128, 129, 130])
(.blk 10 (.loop (.trim (.seq
(.reg [aO 131 (.bin .lss (aT 130) (aT 129))] [] [14, 128, 129, 130, 131])
(.seq
(.cond (aT 131)
(.skip)
(.ext 10))
(.seq
(.blk 11 (.seq
(.reg [aI 132 5 128 130,
aN 133 5 132,
aO 16 (.zer 68 (.agg [(.int .i64 0), (.int .i64 0), (.int .i64 0), (.list .nil 3 []), (.list .nil 3 [])])),
aZ (.st 5 (aT 16) (aT 133))] [] [14, 16, 128, 129, 130])
(.seq
(.reg [aN 134 9 14,
aN 135 5 16,
aO 136 (.call 59 .pure [(aT 135)]),
aO 137 (.call 61 .pure [(aT 134), (aT 136)]),
aO 138 (.un .not (aT 137))] [] [14, 128, 129, 130, 138])
(.cond (aT 138)
(.seq
(.reg [aO 2 (.mv (.val (.int .i64 8)))] [] [2])
(.ret))
(.skip)))))
(.reg [aO 139 (.bin .add (aT 130) (.val (.int .i64 1))),
aM 130 139] [] [14, 128, 129, 130]))))))))
(.seq
(.reg [aO 2 (.mv (.val (.int .i64 0)))] [] [2])
(.ret))))))))))⟩
theorem pf21_ok : fnOk Tryz.prog 21 pf21 = true := by kernel_rfl

/-- hinterland/train.Safe -/
def pf23 : PFn := ⟨32, 1, [.tmp 2, .tmp 3], .seq
(.reg [aO 1 (.boxp 30 (aT 0)),
aO 2 (.mv (.val (.bool false))),
aO 3 (.mv (.val (.int .i64 0)))] [] [1])
(.seq
(.seq
(.reg [aN 9 7 1,
aO 10 (.call 21 .pure [(aT 9)]),
aM 4 10] [] [1, 4])
(.seq
(.reg [aM 11 4,
aO 12 (.bin .neq (aT 11) (.val (.int .i64 0)))] [] [1, 4, 12])
(.cond (aT 12)
(.seq
(.reg [aM 13 4,
aO 2 (.mv (.val (.bool false))),
aM 3 13] [] [2, 3])
(.ret))
(.skip))))
(.seq
(.reg [aN 14 7 1,
aO 15 (.call 60 .pure [(aT 14)]),
aO 5 (.zer 90 (.agg [(.int .i64 0), (.int .i64 0), (.list .nil 1 []), (.list .nil 1 []), (.list .nil 4 []), (.list .nil 6 []), (.list .nil 5 []), .nilmap, .nilmap])),
aZ (.st 9 (aT 5) (aT 15))] [] [1, 5])
(.seq
(.seq
(.reg [aF 16 6 1,
aL 17 16,
aO 18 (.len (aT 17)),
aO 19 (.mv (.val (.int .i64 0)))] [] [5, 17, 18, 19])
(.blk 0 (.loop (.trim (.seq
(.reg [aO 20 (.bin .lss (aT 19) (aT 18))] [] [5, 17, 18, 19, 20])
(.seq
(.cond (aT 20)
(.skip)
(.ext 0))
(.seq
(.blk 1 (.seq
(.reg [aM 21 19,
aI 22 5 17 19,
aN 23 5 22,
aO 7 (.zer 68 (.agg [(.int .i64 0), (.int .i64 0), (.int .i64 0), (.list .nil 3 []), (.list .nil 3 [])])),
aM 6 21,
aZ (.st 5 (aT 7) (aT 23))] [] [5, 6, 7, 17, 18, 19])
(.seq
(.reg [aN 24 9 5,
aM 25 6,
aO 26 (.call 69 .pure [(aT 24), (aT 25)]),
aO 8 (.zer 97 .nilmap),
aZ (.st 1 (aT 8) (aT 26))] [] [5, 7, 8, 17, 18, 19])
(.seq
(.reg [aN 27 5 7,
aO 28 (.call 59 .pure [(aT 27)]),
aO 29 (.mkf (.func 71) [] [(aT 8)]),
aO 30 (.call 70 .pure [(aT 28), (aT 29)])] [] [5, 17, 18, 19, 30])
(.cond (aT 30)
(.seq
(.reg [aO 2 (.mv (.val (.bool false))),
aO 3 (.mv (.val (.int .i64 0)))] [] [2, 3])
(.ret))
(.skip))))))
(.reg [aO 31 (.bin .add (aT 19) (.val (.int .i64 1))),
aM 19 31] [] [5, 17, 18, 19]))))))))
(.seq
(.reg [aO 2 (.mv (.val (.bool true))),
aO 3 (.mv (.val (.int .i64 0)))] [] [2, 3])
(.ret)))))⟩
theorem pf23_ok : fnOk Tryz.prog 23 pf23 = true := by kernel_rfl

/-- hinterland/train.Step -/
def pf25 : PFn := ⟨110, 3, [.cell 6 (some 7), .tmp 7, .tmp 8], .seq
(.reg [aO 3 (.boxp 30 (aT 0)),
aO 6 (.zer 30 (.agg [(.int .i64 0), (.int .i64 0), (.list .nil 1 []), (.list .nil 1 []), (.list .nil 4 []), (.list .nil 6 []), (.list .nil 5 [])])),
aO 7 (.mv (.val (.int .i64 0))),
aO 8 (.mv (.val (.int .i64 0)))] [] [1, 2, 3, 6])
(.seq
(.seq
(.reg [aN 16 7 3,
aM 17 1,
aO 18 (.call 75 .pure [(aT 16), (aT 17)]),
aM 9 18] [] [1, 2, 3, 6, 9])
(.seq
(.reg [aM 19 9,
aO 20 (.bin .neq (aT 19) (.val (.int .i64 0)))] [] [1, 2, 3, 6, 9, 20])
(.cond (aT 20)
(.seq
(.reg [aO 21 (.bld [(.int .i64 0), (.int .i64 0), (.list .nil 1 []), (.list .nil 1 []), (.list .nil 4 []), (.list .nil 6 []), (.list .nil 5 [])] []),
aM 22 9,
aZ (.st 7 (aT 6) (aT 21)),
aO 7 (.mv (.val (.int .i64 0))),
aM 8 22] [] [6, 7, 8])
(.ret))
(.skip))))
(.seq
(.reg [aN 23 7 3,
aO 24 (.call 76 .opn [(aT 23)]),
aO 10 (.zer 30 (.agg [(.int .i64 0), (.int .i64 0), (.list .nil 1 []), (.list .nil 1 []), (.list .nil 4 []), (.list .nil 6 []), (.list .nil 5 [])])),
aZ (.st 7 (aT 10) (aT 24))] [] [1, 2, 6, 10])
(.seq
(.reg [aF 25 6 10,
aL 26 25,
aM 27 1,
aI 28 5 26 27,
aM 11 28] [] [1, 2, 6, 10, 11])
(.seq
(.seq
(.reg [aM 29 11,
aO 30 (.nck (aT 29)),
aF 31 3 30,
aL 32 31,
aO 33 (.len (aT 32)),
aO 34 (.bin .eql (aT 33) (.val (.int .i64 0)))] [] [1, 2, 6, 10, 11, 34])
(.cond (aT 34)
(.seq
(.reg [aN 35 7 10,
aZ (.st 7 (aT 6) (aT 35)),
aO 7 (.mv (.val (.int .i64 0))),
aO 8 (.mv (.val (.int .i64 0)))] [] [6, 7, 8])
(.ret))
(.skip)))
(.seq
(.reg [aM 36 11,
aO 37 (.nck (aT 36)),
aF 38 2 37,
aL 39 38,
aM 40 11,
aO 41 (.nck (aT 40)),
aF 42 1 41,
aL 43 42,
aO 44 (.bin .add (aT 39) (aT 43)),
aO 45 (.nck (aT 36)),
aF 46 2 45,
aZ (.st 1 (aT 46) (aT 44))] [] [1, 2, 6, 10, 11])
(.seq
(.blk 0 (.loop (.seq
(.seq
(.reg [aM 47 11,
aO 48 (.nck (aT 47)),
aF 49 2 48,
aL 50 49,
aO 51 (.bin .geq (aT 50) (.val (.int .i64 192)))] [] [1, 2, 6, 10, 11, 51])
(.cond (aT 51)
(.skip)
(.ext 0)))
(.blk 1 (.seq
(.reg [aN 53 7 10,
aM 54 1,
aM 55 2,
aO 56 (.call 77 .pure [(aT 53), (aT 54), (aT 55)]),
aM 52 56,
aO 57 (.ext 0 (aT 52)),
aO 58 (.ext 1 (aT 52)),
aO 59 (.ext 2 (aT 52)),
aO 12 (.zer 54 (.agg [(.int .i64 0), (.int .i64 0), (.int .i64 0)])),
aZ (.st 3 (aT 12) (aT 57)),
aM 13 58,
aM 14 59] [] [1, 2, 6, 10, 11, 12, 13, 14])
(.seq
(.seq
(.reg [aM 60 14,
aO 61 (.bin .neq (aT 60) (.val (.int .i64 0)))] [] [1, 2, 6, 10, 11, 12, 13, 14, 61])
(.cond (aT 61)
(.seq
(.reg [aM 62 11,
aM 63 11,
aO 64 (.nck (aT 62)),
aF 65 2 64,
aZ (.st 1 (aT 65) (.val (.int .i64 191))),
aO 66 (.nck (aT 63)),
aF 67 1 66,
aZ (.st 1 (aT 67) (.val (.int .i64 0)))] [] [6, 10, 14])
(.seq
(.reg [aN 68 7 10,
aM 69 14,
aZ (.st 7 (aT 6) (aT 68)),
aM 7 69,
aO 8 (.mv (.val (.int .i64 0)))] [] [6, 7, 8])
(.ret)))
(.skip)))
(.seq
(.reg [aN 70 3 12,
aO 71 (.bsl 1 3 [(.int .i64 0), (.int .i64 0), (.int .i64 0)] [(0, 3, (aT 70))]),
aM 72 11,
aO 73 (.nck (aT 72)),
aF 74 3 73,
aL 75 74,
aO 76 (.app 54 3 24 (aT 71) (aT 75)),
aM 15 76] [] [1, 2, 6, 10, 11, 12, 13, 15])
(.seq
(.reg [aM 77 11,
aM 78 15,
aM 79 15,
aO 80 (.len (aT 79)),
aM 81 11,
aO 82 (.nck (aT 81)),
aF 83 0 82,
aL 84 83,
aO 85 (.mn (aT 80) [(aT 84)]),
aO 86 (.slc 3 (aT 78) none (some (aT 85)) none),
aO 87 (.nck (aT 77)),
aF 88 3 87,
aZ (.st 1 (aT 88) (aT 86))] [] [1, 2, 6, 10, 11, 12, 13])
(.seq
(.reg [aM 89 11,
aM 90 13,
aO 91 (.call 78 .pure [(aT 90)]),
aO 92 (.nck (aT 89)),
aF 93 4 92,
aZ (.st 1 (aT 93) (aT 91))] [] [1, 2, 6, 10, 11, 12])
(.seq
(.reg [aM 94 11,
aO 95 (.nck (aT 94)),
aF 96 2 95,
aL 97 96,
aO 98 (.bin .sub (aT 97) (.val (.int .i64 192))),
aO 99 (.nck (aT 94)),
aF 100 2 99,
aZ (.st 1 (aT 100) (aT 98))] [] [1, 2, 6, 10, 11, 12])
(.seq
(.reg [aM 101 2,
aF 102 0 12,
aL 103 102,
aO 104 (.call 79 .pure [(aT 101), (aT 103)])] [] [1, 2, 6, 10, 11, 104])
(.cond (aT 104)
(.seq
(.reg [aM 105 11,
aO 106 (.nck (aT 105)),
aF 107 2 106,
aZ (.st 1 (aT 107) (.val (.int .i64 0)))] [] [6, 10])
(.seq
(.reg [aN 108 7 10,
aZ (.st 7 (aT 6) (aT 108)),
aO 7 (.mv (.val (.int .i64 3))),
aO 8 (.mv (.val (.int .i64 0)))] [] [6, 7, 8])
(.ret)))
(.skip)))))))))))))
(.seq
(.reg [aN 109 7 10,
aZ (.st 7 (aT 6) (aT 109)),
aO 7 (.mv (.val (.int .i64 0))),
aO 8 (.mv (.val (.int .i64 0)))] [] [6, 7, 8])
(.ret))))))))⟩
theorem pf25_ok : fnOk Tryz.prog 25 pf25 = true := by kernel_rfl

/-- hinterland/train.Waits -/
def pf28 : PFn := ⟨95, 2, [.tmp 4, .tmp 5], .seq
(.reg [aO 2 (.boxp 30 (aT 0)),
aO 4 (.mv (.val (.list .nil 1 []))),
aO 5 (.mv (.val (.int .i64 0)))] [] [1, 2])
(.seq
(.seq
(.reg [aN 18 7 2,
aO 19 (.call 21 .pure [(aT 18)]),
aM 6 19] [] [1, 2, 6])
(.seq
(.reg [aM 20 6,
aO 21 (.bin .neq (aT 20) (.val (.int .i64 0)))] [] [1, 2, 6, 21])
(.cond (aT 21)
(.seq
(.reg [aM 22 6,
aO 4 (.mv (.val (.list .nil 1 []))),
aM 5 22] [] [4, 5])
(.ret))
(.skip))))
(.seq
(.seq
(.reg [aM 23 1,
aO 24 (.len (aT 23)),
aF 25 6 2,
aL 26 25,
aO 27 (.len (aT 26)),
aO 28 (.bin .neq (aT 24) (aT 27))] [] [1, 2, 28])
(.cond (aT 28)
(.seq
(.reg [aO 4 (.mv (.val (.list .nil 1 []))),
aO 5 (.mv (.val (.int .i64 8)))] [] [4, 5])
(.ret))
(.skip)))
(.seq
(.reg [aF 29 6 2,
aL 30 29,
aO 31 (.len (aT 30)),
aO 32 (.mks 3 1 8 [(.int .i64 0)] (aT 31) (aT 31)),
aM 7 32] [] [1, 2, 7])
(.seq
(.seq
(.reg [aF 33 6 2,
aL 34 33,
aO 35 (.len (aT 34)),
aO 36 (.mv (.val (.int .i64 0)))] [] [1, 2, 7, 34, 35, 36])
(.blk 0 (.loop (.trim (.seq
(.reg [aO 37 (.bin .lss (aT 36) (aT 35))] [] [1, 2, 7, 34, 35, 36, 37])
(.seq
(.cond (aT 37)
(.skip)
(.ext 0))
(.seq
(.blk 1 (.seq
(.reg [aM 38 36,
aI 39 5 34 36,
aN 40 5 39,
aO 9 (.zer 68 (.agg [(.int .i64 0), (.int .i64 0), (.int .i64 0), (.list .nil 3 []), (.list .nil 3 [])])),
aM 8 38,
aZ (.st 5 (aT 9) (aT 40))] [] [1, 2, 7, 8, 9, 34, 35, 36])
(.seq
(.reg [aM 41 7,
aM 42 8,
aI 43 1 41 42,
aZ (.st 1 (aT 43) (.val (.int .i64 (-1))))] [] [1, 2, 7, 8, 9, 34, 35, 36])
(.seq
(.seq
(.reg [aF 44 3 9,
aL 45 44,
aO 46 (.len (aT 45)),
aO 47 (.bin .eql (aT 46) (.val (.int .i64 0)))] [] [1, 2, 7, 8, 9, 34, 35, 36, 47])
(.cond (aT 47)
(.ext 1)
(.skip)))
(.seq
(.reg [aN 48 7 2,
aO 49 (.call 76 .opn [(aT 48)]),
aO 10 (.zer 30 (.agg [(.int .i64 0), (.int .i64 0), (.list .nil 1 []), (.list .nil 1 []), (.list .nil 4 []), (.list .nil 6 []), (.list .nil 5 [])])),
aZ (.st 7 (aT 10) (aT 49))] [] [1, 2, 7, 8, 9, 10, 34, 35, 36])
(.seq
(.reg [aF 50 6 10,
aL 51 50,
aM 52 8,
aI 53 5 51 52,
aF 54 1 53,
aZ (.st 1 (aT 54) (.val (.int .i64 192)))] [] [1, 2, 7, 8, 9, 10, 34, 35, 36])
(.seq
(.seq
(.reg [aN 56 7 10,
aM 57 8,
aM 58 1,
aM 59 8,
aI 60 1 58 59,
aL 61 60,
aO 62 (.call 25 .pure [(aT 56), (aT 57), (aT 61)]),
aM 55 62,
aO 63 (.ext 0 (aT 55)),
aO 64 (.ext 1 (aT 55)),
aO 65 (.ext 2 (aT 55)),
aO 11 (.zer 30 (.agg [(.int .i64 0), (.int .i64 0), (.list .nil 1 []), (.list .nil 1 []), (.list .nil 4 []), (.list .nil 6 []), (.list .nil 5 [])])),
aZ (.st 7 (aT 11) (aT 63)),
aM 12 64,
aM 13 65] [(0, 11), (0, 12), (5, 11), (5, 12), (6, 11), (6, 12)] [1, 2, 7, 8, 9, 12, 34, 35, 36])
(.seq
(.reg [aM 66 12,
aO 67 (.bin .neq (aT 66) (.val (.int .i64 1)))] [] [1, 2, 7, 8, 9, 34, 35, 36, 67])
(.cond (aT 67)
(.ext 1)
(.skip))))
(.seq
(.reg [aN 68 5 9,
aO 69 (.call 84 .pure [(aT 68)]),
aO 14 (.zer 54 (.agg [(.int .i64 0), (.int .i64 0), (.int .i64 0)])),
aZ (.st 3 (aT 14) (aT 69))] [] [1, 2, 7, 8, 14, 34, 35, 36])
(.seq
(.reg [aN 70 7 2,
aO 71 (.call 60 .pure [(aT 70)]),
aO 15 (.zer 90 (.agg [(.int .i64 0), (.int .i64 0), (.list .nil 1 []), (.list .nil 1 []), (.list .nil 4 []), (.list .nil 6 []), (.list .nil 5 []), .nilmap, .nilmap])),
aZ (.st 9 (aT 15) (aT 71))] [] [1, 2, 7, 8, 14, 15, 34, 35, 36])
(.seq
(.reg [aN 73 9 15,
aM 74 8,
aN 75 3 14,
aM 76 1,
aM 77 8,
aI 78 1 76 77,
aL 79 78,
aO 80 (.call 85 .pure [(aT 73), (aT 74), (aT 75), (aT 79)]),
aN 81 3 14,
aO 82 (.call 86 .pure [(aT 80), (aT 81)]),
aM 72 82,
aO 83 (.ext 0 (aT 72)),
aO 84 (.ext 1 (aT 72)),
aO 16 (.zer 54 (.agg [(.int .i64 0), (.int .i64 0), (.int .i64 0)])),
aZ (.st 3 (aT 16) (aT 83)),
aM 17 84] [(0, 13), (0, 14), (2, 13), (2, 14), (6, 13), (6, 14), (7, 13), (7, 14), (8, 13), (8, 14), (9, 13), (9, 14)] [1, 2, 7, 8, 15, 16, 17, 34, 35, 36])
(.seq
(.reg [aM 85 17] [] [1, 2, 7, 8, 15, 16, 34, 35, 36, 85])
(.cond (aT 85)
(.reg [aM 86 7,
aM 87 8,
aN 88 9 15,
aM 89 8,
aN 90 3 16,
aO 91 (.call 87 .pure [(aT 88), (aT 89), (aT 90)]),
aI 92 1 86 87,
aZ (.st 1 (aT 92) (aT 91))] [] [1, 2, 7, 34, 35, 36])
(.skip)))))))))))))
(.reg [aO 93 (.bin .add (aT 36) (.val (.int .i64 1))),
aM 36 93] [] [1, 2, 7, 34, 35, 36]))))))))
(.seq
(.reg [aM 94 7,
aM 4 94,
aO 5 (.mv (.val (.int .i64 0)))] [] [4, 5])
(.ret))))))⟩
theorem pf28_ok : fnOk Tryz.prog 28 pf28 = true := by kernel_rfl

/-- hinterland/hinterlandsame.List[int] -/
def pf30 : PFn := ⟨26, 2, [.tmp 4], .seq
(.reg [aO 4 (.mv (.val (.bool false)))] [] [0, 1])
(.seq
(.seq
(.reg [aM 6 0,
aO 7 (.len (aT 6)),
aM 8 1,
aO 9 (.len (aT 8)),
aO 10 (.bin .neq (aT 7) (aT 9))] [] [0, 1, 10])
(.cond (aT 10)
(.seq
(.reg [aO 4 (.mv (.val (.bool false)))] [] [4])
(.ret))
(.skip)))
(.seq
(.seq
(.reg [aO 5 (.mv (.val (.int .i64 0)))] [] [0, 1, 5])
(.blk 0 (.loop (.seq
(.seq
(.reg [aM 11 5,
aM 12 0,
aO 13 (.len (aT 12)),
aO 14 (.bin .lss (aT 11) (aT 13))] [] [0, 1, 5, 14])
(.cond (aT 14)
(.skip)
(.ext 0)))
(.seq
(.blk 1 (.seq
(.reg [aM 17 0,
aM 18 5,
aI 19 1 17 18,
aL 20 19,
aM 21 1,
aM 22 5,
aI 23 1 21 22,
aL 24 23,
aO 25 (.bin .neq (aT 20) (aT 24))] [] [0, 1, 5, 25])
(.cond (aT 25)
(.seq
(.reg [aO 4 (.mv (.val (.bool false)))] [] [4])
(.ret))
(.skip))))
(.reg [aM 15 5,
aO 16 (.bin .add (aT 15) (.val (.int .i64 1))),
aM 5 16] [] [0, 1, 5]))))))
(.seq
(.reg [aO 4 (.mv (.val (.bool true)))] [] [4])
(.ret))))⟩
theorem pf30_ok : fnOk Tryz.prog 30 pf30 = true := by kernel_rfl

/-- hinterland/train.Ring -/
def pf31 : PFn := ⟨55, 1, [.tmp 2, .tmp 3], .seq
(.reg [aO 2 (.mv (.val (.list .nil 1 []))),
aO 3 (.mv (.val (.int .i64 0)))] [] [0])
(.seq
(.seq
(.reg [aM 9 0,
aO 10 (.len (aT 9)),
aO 11 (.mv (.val (.int .i64 0)))] [] [0, 9, 10, 11])
(.blk 0 (.loop (.seq
(.reg [aO 12 (.bin .lss (aT 11) (aT 10))] [] [0, 9, 10, 11, 12])
(.seq
(.cond (aT 12)
(.skip)
(.ext 0))
(.seq
(.blk 1 (.seq
(.reg [aI 13 1 9 11,
aL 14 13,
aM 5 14] [] [0, 5, 9, 10, 11])
(.seq
(.reg [aM 15 5,
aO 16 (.bin .lss (aT 15) (.val (.int .i64 (-1)))),
aM 17 16,
bM 18 17 false 5,
bM 19 17 false 0,
bO 20 17 false (.len (aT 19)),
bO 21 17 false (.bin .geq (aT 18) (aT 20)),
aO 22 (.pick (aT 17) (.val (.bool true)) (aT 21))] [] [0, 9, 10, 11, 22])
(.cond (aT 22)
(.seq
(.reg [aO 2 (.mv (.val (.list .nil 1 []))),
aO 3 (.mv (.val (.int .i64 1)))] [] [2, 3])
(.ret))
(.skip)))))
(.reg [aO 23 (.bin .add (aT 11) (.val (.int .i64 1))),
aM 11 23] [] [0, 9, 10, 11])))))))
(.seq
(.reg [aO 6 (.nacc 3 1)] [] [0, 6])
(.seq
(.seq
(.reg [aM 24 0,
aO 25 (.len (aT 24)),
aO 26 (.mv (.val (.int .i64 0)))] [] [0, 6, 25, 26])
(.blk 2 (.loop (.seq
(.reg [aO 27 (.bin .lss (aT 26) (aT 25))] [] [0, 6, 25, 26, 27])
(.seq
(.cond (aT 27)
(.skip)
(.ext 2))
(.seq
(.blk 3 (.seq
(.reg [aM 28 26,
aM 7 28] [] [0, 6, 7, 25, 26])
(.seq
(.reg [aM 29 7,
aM 8 29] [] [0, 6, 7, 8, 25, 26])
(.seq
(.seq
(.reg [aM 30 0,
aO 31 (.len (aT 30)),
aO 32 (.mv (.val (.int .i64 0)))] [] [0, 6, 7, 8, 25, 26, 31, 32])
(.blk 4 (.loop (.seq
(.reg [aO 33 (.bin .lss (aT 32) (aT 31))] [] [0, 6, 7, 8, 25, 26, 31, 32, 33])
(.seq
(.cond (aT 33)
(.skip)
(.ext 4))
(.seq
(.blk 5 (.seq
(.reg [aM 34 0,
aM 35 8,
aI 36 1 34 35,
aL 37 36,
aM 8 37] [] [0, 6, 7, 8, 25, 26, 31, 32])
(.seq
(.reg [aM 38 8,
aO 39 (.bin .lss (aT 38) (.val (.int .i64 0))),
aM 40 39,
bM 41 40 false 8,
bM 42 40 false 7,
bO 43 40 false (.bin .eql (aT 41) (aT 42)),
aO 44 (.pick (aT 40) (.val (.bool true)) (aT 43))] [] [0, 6, 7, 8, 25, 26, 31, 32, 44])
(.cond (aT 44)
(.ext 4)
(.skip)))))
(.reg [aO 45 (.bin .add (aT 32) (.val (.int .i64 1))),
aM 32 45] [] [0, 6, 7, 8, 25, 26, 31, 32])))))))
(.seq
(.reg [aM 46 8,
aM 47 7,
aO 48 (.bin .eql (aT 46) (aT 47))] [] [0, 6, 7, 25, 26, 48])
(.cond (aT 48)
(.reg [aM 49 6,
aM 50 7,
aO 51 (.bsl 1 1 [(.int .i64 0)] [(0, 1, (aT 50))]),
aO 52 (.app 3 1 8 (aT 49) (aT 51)),
aM 6 52] [] [0, 6, 25, 26])
(.skip)))))))
(.reg [aO 53 (.bin .add (aT 26) (.val (.int .i64 1))),
aM 26 53] [] [0, 6, 25, 26])))))))
(.seq
(.reg [aM 54 6,
aM 2 54,
aO 3 (.mv (.val (.int .i64 0)))] [] [2, 3])
(.ret)))))⟩
theorem pf31_ok : fnOk Tryz.prog 31 pf31 = true := by kernel_rfl

/-- hinterland/hinterlandref16.Ring -/
def pf32 : PFn := ⟨58, 1, [.tmp 2, .tmp 3], .seq
(.reg [aO 2 (.mv (.val (.list .nil 1 []))),
aO 3 (.mv (.val (.int .i64 0)))] [] [0])
(.seq
(.seq
(.reg [aM 9 0,
aO 10 (.len (aT 9)),
aO 11 (.mv (.val (.int .i64 0)))] [] [0, 9, 10, 11])
(.blk 0 (.loop (.seq
(.reg [aO 12 (.bin .lss (aT 11) (aT 10))] [] [0, 9, 10, 11, 12])
(.seq
(.cond (aT 12)
(.skip)
(.ext 0))
(.seq
(.blk 1 (.seq
(.reg [aI 13 1 9 11,
aL 14 13,
aM 5 14] [] [0, 5, 9, 10, 11])
(.seq
(.reg [aM 15 5,
aO 16 (.bin .lss (aT 15) (.val (.int .i64 (-1)))),
aM 17 16,
bM 18 17 false 5,
bM 19 17 false 0,
bO 20 17 false (.len (aT 19)),
bO 21 17 false (.bin .geq (aT 18) (aT 20)),
aO 22 (.pick (aT 17) (.val (.bool true)) (aT 21))] [] [0, 9, 10, 11, 22])
(.cond (aT 22)
(.seq
(.reg [aO 2 (.mv (.val (.list .nil 1 []))),
aO 3 (.mv (.val (.int .i64 1)))] [] [2, 3])
(.ret))
(.skip)))))
(.reg [aO 23 (.bin .add (aT 11) (.val (.int .i64 1))),
aM 11 23] [] [0, 9, 10, 11])))))))
(.seq
(.reg [aO 6 (.nacc 3 1)] [] [0, 6])
(.seq
(.seq
(.reg [aM 24 0,
aO 25 (.len (aT 24)),
aO 26 (.mv (.val (.int .i64 0)))] [] [0, 6, 25, 26])
(.blk 2 (.loop (.seq
(.reg [aO 27 (.bin .lss (aT 26) (aT 25))] [] [0, 6, 25, 26, 27])
(.seq
(.cond (aT 27)
(.skip)
(.ext 2))
(.seq
(.blk 3 (.seq
(.reg [aM 28 26,
aM 7 28] [] [0, 6, 7, 25, 26])
(.seq
(.reg [aM 29 0,
aM 30 7,
aI 31 1 29 30,
aL 32 31,
aM 8 32] [] [0, 6, 7, 8, 25, 26])
(.seq
(.seq
(.reg [aM 33 0,
aO 34 (.len (aT 33)),
aO 35 (.mv (.val (.int .i64 0)))] [] [0, 6, 7, 8, 25, 26, 34, 35])
(.blk 4 (.loop (.seq
(.reg [aO 36 (.bin .lss (aT 35) (aT 34))] [] [0, 6, 7, 8, 25, 26, 34, 35, 36])
(.seq
(.cond (aT 36)
(.skip)
(.ext 4))
(.seq
(.blk 5 (.seq
(.seq
(.reg [aM 37 8,
aO 38 (.bin .lss (aT 37) (.val (.int .i64 0))),
aM 39 38,
bM 40 39 false 8,
bM 41 39 false 7,
bO 42 39 false (.bin .eql (aT 40) (aT 41)),
aO 43 (.pick (aT 39) (.val (.bool true)) (aT 42))] [] [0, 6, 7, 8, 25, 26, 34, 35, 43])
(.cond (aT 43)
(.ext 4)
(.skip)))
(.reg [aM 44 0,
aM 45 8,
aI 46 1 44 45,
aL 47 46,
aM 8 47] [] [0, 6, 7, 8, 25, 26, 34, 35])))
(.reg [aO 48 (.bin .add (aT 35) (.val (.int .i64 1))),
aM 35 48] [] [0, 6, 7, 8, 25, 26, 34, 35])))))))
(.seq
(.reg [aM 49 8,
aM 50 7,
aO 51 (.bin .eql (aT 49) (aT 50))] [] [0, 6, 7, 25, 26, 51])
(.cond (aT 51)
(.reg [aM 52 6,
aM 53 7,
aO 54 (.bsl 1 1 [(.int .i64 0)] [(0, 1, (aT 53))]),
aO 55 (.app 3 1 8 (aT 52) (aT 54)),
aM 6 55] [] [0, 6, 25, 26])
(.skip)))))))
(.reg [aO 56 (.bin .add (aT 26) (.val (.int .i64 1))),
aM 26 56] [] [0, 6, 25, 26])))))))
(.seq
(.reg [aM 57 6,
aM 2 57,
aO 3 (.mv (.val (.int .i64 0)))] [] [2, 3])
(.ret)))))⟩
theorem pf32_ok : fnOk Tryz.prog 32 pf32 = true := by kernel_rfl

/-- hinterland/hinterlandlaw16.hits -/
def pf33 : PFn := ⟨17, 2, [.tmp 4], .seq
(.reg [aO 4 (.mv (.val (.bool false)))] [] [0, 1])
(.seq
(.seq
(.reg [aM 7 0,
aO 8 (.len (aT 7)),
aO 9 (.mv (.val (.int .i64 0)))] [] [1, 7, 8, 9])
(.blk 0 (.loop (.seq
(.reg [aO 10 (.bin .lss (aT 9) (aT 8))] [] [1, 7, 8, 9, 10])
(.seq
(.cond (aT 10)
(.skip)
(.ext 0))
(.seq
(.blk 1 (.seq
(.reg [aI 11 1 7 9,
aL 12 11,
aM 6 12] [] [1, 6, 7, 8, 9])
(.seq
(.reg [aM 13 6,
aM 14 1,
aO 15 (.bin .eql (aT 13) (aT 14))] [] [1, 7, 8, 9, 15])
(.cond (aT 15)
(.seq
(.reg [aO 4 (.mv (.val (.bool true)))] [] [4])
(.ret))
(.skip)))))
(.reg [aO 16 (.bin .add (aT 9) (.val (.int .i64 1))),
aM 9 16] [] [1, 7, 8, 9])))))))
(.seq
(.reg [aO 4 (.mv (.val (.bool false)))] [] [4])
(.ret)))⟩
theorem pf33_ok : fnOk Tryz.prog 33 pf33 = true := by kernel_rfl

/-- hinterland/hinterlandlaw16.line -/
def pf53 : PFn := ⟨25, 0, [.cell 0 (some 7)], .seq
(.reg [aO 0 (.zer 30 (.agg [(.int .i64 0), (.int .i64 0), (.list .nil 1 []), (.list .nil 1 []), (.list .nil 4 []), (.list .nil 6 []), (.list .nil 5 [])]))] [] [0])
(.seq
(.reg [aO 3 (.mks 3 1 8 [(.int .i64 0)] (.val (.int .i64 16)) (.val (.int .i64 16))),
aO 4 (.mks 4 1 1 [(.bool false)] (.val (.int .i64 16)) (.val (.int .i64 16))),
aO 5 (.bld [(.int .i64 0), (.int .i64 0), (.list .nil 1 []), (.list .nil 1 [])] [(0, 1, (.val (.int .i64 4))), (1, 1, (.val (.int .i64 4))), (2, 1, (aT 3)), (3, 1, (aT 4))]),
aO 6 (.bld [(.int .i64 0), (.int .i64 0), (.list .nil 1 []), (.list .nil 1 []), (.list .nil 4 []), (.list .nil 6 []), (.list .nil 5 [])] [(0, 4, (aT 5))]),
aO 1 (.zer 30 (.agg [(.int .i64 0), (.int .i64 0), (.list .nil 1 []), (.list .nil 1 []), (.list .nil 4 []), (.list .nil 6 []), (.list .nil 5 [])])),
aZ (.st 7 (aT 1) (aT 6))] [] [0, 1])
(.seq
(.seq
(.reg [aO 7 (.mv (.val (.int .i64 0)))] [] [0, 1, 7])
(.blk 0 (.loop (.seq
(.reg [aO 8 (.bin .lss (aT 7) (.val (.int .i64 4)))] [] [0, 1, 7, 8])
(.seq
(.cond (aT 8)
(.skip)
(.ext 0))
(.seq
(.blk 1 (.seq
(.reg [aM 9 7,
aM 2 9] [] [0, 1, 2, 7])
(.reg [aF 10 0 1,
aF 11 2 10,
aL 12 11,
aM 13 2,
aI 14 1 12 13,
aZ (.st 1 (aT 14) (.val (.int .i64 1)))] [] [0, 1, 7])))
(.reg [aO 15 (.bin .add (aT 7) (.val (.int .i64 1))),
aM 7 15] [] [0, 1, 7])))))))
(.seq
(.reg [aO 16 (.bld [(.int .i64 0), (.int .i64 0), (.int .i64 0)] [(0, 1, (.val (.int .i64 0))), (1, 1, (.val (.int .i64 0))), (2, 1, (.val (.int .i64 0)))]),
aO 17 (.bsl 1 3 [(.int .i64 0), (.int .i64 0), (.int .i64 0)] [(0, 3, (aT 16))]),
aO 18 (.bld [(.int .i64 0), (.int .i64 0), (.int .i64 0), (.list .nil 3 []), (.list .nil 3 [])] [(0, 1, (.val (.int .i64 1))), (1, 1, (.val (.int .i64 192))), (3, 1, (aT 17))]),
aO 19 (.bld [(.int .i64 0), (.int .i64 0), (.int .i64 0)] [(0, 1, (.val (.int .i64 3))), (1, 1, (.val (.int .i64 0))), (2, 1, (.val (.int .i64 2)))]),
aO 20 (.bsl 1 3 [(.int .i64 0), (.int .i64 0), (.int .i64 0)] [(0, 3, (aT 19))]),
aO 21 (.bld [(.int .i64 0), (.int .i64 0), (.int .i64 0), (.list .nil 3 []), (.list .nil 3 [])] [(0, 1, (.val (.int .i64 1))), (1, 1, (.val (.int .i64 192))), (3, 1, (aT 20))]),
aO 22 (.bsl 2 5 [(.int .i64 0), (.int .i64 0), (.int .i64 0), (.list .nil 3 []), (.list .nil 3 [])] [(0, 5, (aT 18)), (5, 5, (aT 21))]),
aF 23 6 1,
aZ (.st 1 (aT 23) (aT 22))] [] [0, 1])
(.seq
(.reg [aN 24 7 1,
aZ (.st 7 (aT 0) (aT 24))] [] [0])
(.ret)))))⟩
theorem pf53_ok : fnOk Tryz.prog 53 pf53 = true := by kernel_rfl

/-- hinterland/block.Validate -/
def pf54 : PFn := ⟨70, 2, [.tmp 4], .seq
(.reg [aO 2 (.boxp 25 (aT 0)),
aO 4 (.mv (.val (.int .i64 0)))] [] [1, 2])
(.seq
(.seq
(.reg [aN 10 4 2,
aO 11 (.call 104 .pure [(aT 10)]),
aM 5 11] [] [1, 2, 5])
(.seq
(.reg [aM 12 5,
aO 13 (.bin .neq (aT 12) (.val (.int .i64 0)))] [] [1, 2, 5, 13])
(.cond (aT 13)
(.seq
(.reg [aM 14 5,
aM 4 14] [] [4])
(.ret))
(.skip))))
(.seq
(.seq
(.reg [aM 15 1,
aO 16 (.len (aT 15)),
aO 17 (.mv (.val (.int .i64 0)))] [] [1, 2, 15, 16, 17])
(.blk 0 (.loop (.trim (.seq
(.reg [aO 18 (.bin .lss (aT 17) (aT 16))] [] [1, 2, 15, 16, 17, 18])
(.seq
(.cond (aT 18)
(.skip)
(.ext 0))
(.seq
(.blk 1 (.seq
(.reg [aM 19 17,
aI 20 4 15 17,
aN 21 4 20,
aO 7 (.zer 75 (.agg [(.int .i64 0), (.int .i64 0), (.int .i64 0), (.int .i64 0)])),
aM 6 19,
aZ (.st 4 (aT 7) (aT 21))] [] [1, 2, 6, 7, 15, 16, 17])
(.seq
(.reg [aF 22 3 7,
aL 23 22,
aO 24 (.bin .lss (aT 23) (.val (.int .i64 0))),
aM 25 24,
bF 26 25 false 3 7,
bL 27 25 false 26,
bO 28 25 false (.bin .geq (aT 27) (.val (.int .i64 6))),
aO 29 (.pick (aT 25) (.val (.bool true)) (aT 28)),
aM 30 29,
bM 31 30 false 6,
bO 32 30 false (.bin .gtr (aT 31) (.val (.int .i64 0))),
bM 33 30 false 32,
bM 34 33 true 1,
bM 35 33 true 6,
bO 36 33 true (.bin .sub (aT 35) (.val (.int .i64 1))),
bO 37 33 true (.iaS 4 (aT 34) (aT 36)),
bN 38 33 true 4 37,
bN 39 33 true 4 7,
bO 40 33 true (.call 105 .pure [(aT 38), (aT 39)]),
bO 41 33 true (.bin .geq (aT 40) (.val (.int .i64 0))),
bO 42 30 false (.pick (aT 33) (aT 41) (.val (.bool false))),
aO 43 (.pick (aT 30) (.val (.bool true)) (aT 42))] [] [1, 2, 15, 16, 17, 43])
(.cond (aT 43)
(.seq
(.reg [aO 4 (.mv (.val (.int .i64 1)))] [] [4])
(.ret))
(.skip)))))
(.reg [aO 44 (.bin .add (aT 17) (.val (.int .i64 1))),
aM 17 44] [] [1, 2, 15, 16, 17]))))))))
(.seq
(.seq
(.reg [aM 45 1,
aO 46 (.len (aT 45)),
aO 47 (.bin .gtr (aT 46) (.val (.int .i64 300)))] [] [1, 2, 47])
(.cond (aT 47)
(.seq
(.reg [aO 4 (.mv (.val (.int .i64 1)))] [] [4])
(.ret))
(.skip)))
(.seq
(.seq
(.reg [aM 48 1,
aO 49 (.len (aT 48)),
aO 50 (.mv (.val (.int .i64 0)))] [] [2, 48, 49, 50])
(.blk 2 (.loop (.trim (.seq
(.reg [aO 51 (.bin .lss (aT 50) (aT 49))] [] [2, 48, 49, 50, 51])
(.seq
(.cond (aT 51)
(.skip)
(.ext 2))
(.seq
(.blk 3 (.seq
(.reg [aI 52 4 48 50,
aN 53 4 52,
aO 9 (.zer 75 (.agg [(.int .i64 0), (.int .i64 0), (.int .i64 0), (.int .i64 0)])),
aZ (.st 4 (aT 9) (aT 53))] [] [2, 9, 48, 49, 50])
(.seq
(.reg [aN 54 4 2,
aF 55 0 9,
aL 56 55,
aF 57 1 9,
aL 58 57,
aO 59 (.call 106 .pure [(aT 54), (aT 56), (aT 58)]),
aO 60 (.un .not (aT 59)),
aM 61 60,
bF 62 61 false 1 9,
bL 63 61 false 62,
bF 64 61 false 2 9,
bL 65 61 false 64,
bO 66 61 false (.call 107 .pure [(aT 63), (aT 65)]),
bO 67 61 false (.un .not (aT 66)),
aO 68 (.pick (aT 61) (.val (.bool true)) (aT 67))] [] [2, 48, 49, 50, 68])
(.cond (aT 68)
(.seq
(.reg [aO 4 (.mv (.val (.int .i64 2)))] [] [4])
(.ret))
(.skip)))))
(.reg [aO 69 (.bin .add (aT 50) (.val (.int .i64 1))),
aM 50 69] [] [2, 48, 49, 50]))))))))
(.seq
(.reg [aO 4 (.mv (.val (.int .i64 0)))] [] [4])
(.ret))))))⟩
theorem pf54_ok : fnOk Tryz.prog 54 pf54 = true := by kernel_rfl

/-- cmp.Or[int] -/
def pf55 : PFn := ⟨18, 1, [.tmp 2], .seq
(.reg [aO 2 (.mv (.val (.int .i64 0)))] [] [0])
(.seq
(.reg [aO 3 (.mv (.val (.int .i64 0)))] [] [0, 3])
(.seq
(.seq
(.reg [aM 6 0,
aO 7 (.len (aT 6)),
aO 8 (.mv (.val (.int .i64 0)))] [] [3, 6, 7, 8])
(.blk 0 (.loop (.seq
(.reg [aO 9 (.bin .lss (aT 8) (aT 7))] [] [3, 6, 7, 8, 9])
(.seq
(.cond (aT 9)
(.skip)
(.ext 0))
(.seq
(.blk 1 (.seq
(.reg [aI 10 1 6 8,
aL 11 10,
aM 5 11] [] [3, 5, 6, 7, 8])
(.seq
(.reg [aM 12 5,
aM 13 3,
aO 14 (.bin .neq (aT 12) (aT 13))] [] [3, 5, 6, 7, 8, 14])
(.cond (aT 14)
(.seq
(.reg [aM 15 5,
aM 2 15] [] [2])
(.ret))
(.skip)))))
(.reg [aO 16 (.bin .add (aT 8) (.val (.int .i64 1))),
aM 8 16] [] [3, 6, 7, 8])))))))
(.seq
(.reg [aM 17 3,
aM 2 17] [] [2])
(.ret))))⟩
theorem pf55_ok : fnOk Tryz.prog 55 pf55 = true := by kernel_rfl

/-- hinterland/train.compare -/
def pf56 : PFn := ⟨22, 2, [.tmp 4], .seq
(.reg [aO 2 (.boxp 54 (aT 0)),
aO 3 (.boxp 54 (aT 1)),
aO 4 (.mv (.val (.int .i64 0)))] [] [2, 3])
(.seq
(.reg [aF 5 0 2,
aL 6 5,
aF 7 0 3,
aL 8 7,
aO 9 (.call 108 .pure [(aT 6), (aT 8)]),
aF 10 1 2,
aL 11 10,
aF 12 1 3,
aL 13 12,
aO 14 (.call 108 .pure [(aT 11), (aT 13)]),
aF 15 2 2,
aL 16 15,
aF 17 2 3,
aL 18 17,
aO 19 (.call 108 .pure [(aT 16), (aT 18)]),
aO 20 (.bsl 3 1 [(.int .i64 0)] [(0, 1, (aT 9)), (1, 1, (aT 14)), (2, 1, (aT 19))]),
aO 21 (.call 55 .pure [(aT 20)]),
aM 4 21] [] [4])
(.ret))⟩
theorem pf56_ok : fnOk Tryz.prog 56 pf56 = true := by kernel_rfl

/-- hinterland/train.fields -/
def pf57 : PFn := ⟨57, 1, [.tmp 2], .seq
(.reg [aO 1 (.boxp 68 (aT 0)),
aO 2 (.mv (.val (.bool false)))] [] [1])
(.seq
(.reg [aF 3 0 1,
aL 4 3,
aO 5 (.bin .geq (aT 4) (.val (.int .i64 1))),
aM 6 5,
bF 7 6 true 0 1,
bL 8 6 true 7,
bO 9 6 true (.bin .leq (aT 8) (.val (.int .i64 20))),
aO 10 (.pick (aT 6) (aT 9) (.val (.bool false))),
aM 11 10,
bF 12 11 true 1 1,
bL 13 11 true 12,
bO 14 11 true (.bin .geq (aT 13) (.val (.int .i64 0))),
aO 15 (.pick (aT 11) (aT 14) (.val (.bool false))),
aM 16 15,
bF 17 16 true 1 1,
bL 18 16 true 17,
bO 19 16 true (.bin .leq (aT 18) (.val (.int .i64 192))),
aO 20 (.pick (aT 16) (aT 19) (.val (.bool false))),
aM 21 20,
bF 22 21 true 2 1,
bL 23 21 true 22,
bO 24 21 true (.bin .geq (aT 23) (.val (.int .i64 0))),
aO 25 (.pick (aT 21) (aT 24) (.val (.bool false))),
aM 26 25,
bF 27 26 true 2 1,
bL 28 26 true 27,
bO 29 26 true (.bin .lss (aT 28) (.val (.int .i64 192))),
aO 30 (.pick (aT 26) (aT 29) (.val (.bool false))),
aM 31 30,
bF 32 31 true 3 1,
bL 33 31 true 32,
bO 34 31 true (.len (aT 33)),
bF 35 31 true 0 1,
bL 36 31 true 35,
bO 37 31 true (.bin .leq (aT 34) (aT 36)),
aO 38 (.pick (aT 31) (aT 37) (.val (.bool false))),
aM 39 38,
bF 40 39 true 4 1,
bL 41 39 true 40,
bO 42 39 true (.len (aT 41)),
bO 43 39 true (.bin .leq (aT 42) (.val (.int .i64 60))),
aO 44 (.pick (aT 39) (aT 43) (.val (.bool false))),
aM 45 44,
bF 46 45 true 3 1,
bL 47 45 true 46,
bO 48 45 true (.len (aT 47)),
bO 49 45 true (.bin .gtr (aT 48) (.val (.int .i64 0))),
bM 50 45 true 49,
bF 51 50 false 4 1,
bL 52 50 false 51,
bO 53 50 false (.len (aT 52)),
bO 54 50 false (.bin .eql (aT 53) (.val (.int .i64 0))),
bO 55 45 true (.pick (aT 50) (.val (.bool true)) (aT 54)),
aO 56 (.pick (aT 45) (aT 55) (.val (.bool false))),
aM 2 56] [] [2])
(.ret))⟩
theorem pf57_ok : fnOk Tryz.prog 57 pf57 = true := by kernel_rfl

/-- hinterland/train.lies -/
def pf58 : PFn := ⟨57, 2, [.tmp 4], .seq
(.reg [aO 2 (.boxp 25 (aT 0)),
aO 3 (.boxp 54 (aT 1)),
aO 4 (.mv (.val (.bool false)))] [] [2, 3])
(.seq
(.seq
(.reg [aF 7 0 3,
aL 8 7,
aO 9 (.bin .lss (aT 8) (.val (.int .i64 0))),
aM 10 9,
bF 11 10 false 0 3,
bL 12 10 false 11,
bF 13 10 false 2 2,
bL 14 10 false 13,
bO 15 10 false (.len (aT 14)),
bO 16 10 false (.bin .geq (aT 12) (aT 15)),
aO 17 (.pick (aT 10) (.val (.bool true)) (aT 16)),
aM 18 17,
bF 19 18 false 1 3,
bL 20 18 false 19,
bO 21 18 false (.bin .lss (aT 20) (.val (.int .i64 0))),
aO 22 (.pick (aT 18) (.val (.bool true)) (aT 21)),
aM 23 22,
bF 24 23 false 1 3,
bL 25 23 false 24,
bO 26 23 false (.bin .gtr (aT 25) (.val (.int .i64 5))),
aO 27 (.pick (aT 23) (.val (.bool true)) (aT 26)),
aM 28 27,
bF 29 28 false 2 2,
bL 30 28 false 29,
bF 31 28 false 0 3,
bL 32 28 false 31,
bO 33 28 false (.iaS 1 (aT 30) (aT 32)),
bL 34 28 false 33,
bF 35 28 false 1 3,
bL 36 28 false 35,
bO 37 28 false (.bin .shr (aT 34) (aT 36)),
bO 38 28 false (.bin .and (aT 37) (.val (.int .i64 1))),
bO 39 28 false (.bin .eql (aT 38) (.val (.int .i64 0))),
aO 40 (.pick (aT 28) (.val (.bool true)) (aT 39))] [] [3, 40])
(.cond (aT 40)
(.seq
(.reg [aO 4 (.mv (.val (.bool false)))] [] [4])
(.ret))
(.skip)))
(.seq
(.reg [aF 42 1 3,
aL 43 42,
aO 44 (.call 102 .pure [(aT 43)]),
aM 41 44,
aO 45 (.ext 0 (aT 41)),
aO 46 (.ext 1 (aT 41)),
aM 5 45,
aM 6 46] [] [3, 5, 6])
(.seq
(.reg [aF 47 2 3,
aL 48 47,
aM 49 5,
aO 50 (.bin .eql (aT 48) (aT 49)),
aM 51 50,
bF 52 51 false 2 3,
bL 53 51 false 52,
bM 54 51 false 6,
bO 55 51 false (.bin .eql (aT 53) (aT 54)),
aO 56 (.pick (aT 51) (.val (.bool true)) (aT 55)),
aM 4 56] [] [4])
(.ret))))⟩
theorem pf58_ok : fnOk Tryz.prog 58 pf58 = true := by kernel_rfl

/-- hinterland/train.whole -/
def pf59 : PFn := ⟨13, 1, [.tmp 2], .seq
(.reg [aO 1 (.boxp 68 (aT 0)),
aO 2 (.mv (.val (.list .nil 3 [])))] [] [1])
(.seq
(.reg [aF 4 3 1,
aL 5 4,
aO 6 (.call 78 .opn [(aT 5)]),
aM 3 6] [] [1, 3])
(.seq
(.reg [aM 7 3,
aO 8 (.call 109 .opn [(aT 7)])] [] [1, 3])
(.seq
(.reg [aM 9 3,
aF 10 4 1,
aL 11 10,
aO 12 (.app 54 3 24 (aT 9) (aT 11)),
aM 2 12] [] [2])
(.ret))))⟩
theorem pf59_ok : fnOk Tryz.prog 59 pf59 = true := by kernel_rfl

/-- hinterland/train.fieldOf -/
def pf60 : PFn := ⟨51, 1, [.cell 2 (some 9)], .seq
(.reg [aO 1 (.boxp 30 (aT 0)),
aO 2 (.zer 90 (.agg [(.int .i64 0), (.int .i64 0), (.list .nil 1 []), (.list .nil 1 []), (.list .nil 4 []), (.list .nil 6 []), (.list .nil 5 []), .nilmap, .nilmap]))] [] [1, 2])
(.seq
(.reg [aN 8 7 1,
aO 9 (.mkm (some 3)),
aO 10 (.mkm (some 3)),
aO 11 (.bld [(.int .i64 0), (.int .i64 0), (.list .nil 1 []), (.list .nil 1 []), (.list .nil 4 []), (.list .nil 6 []), (.list .nil 5 []), .nilmap, .nilmap] [(0, 7, (aT 8)), (7, 1, (aT 9)), (8, 1, (aT 10))]),
aO 3 (.zer 90 (.agg [(.int .i64 0), (.int .i64 0), (.list .nil 1 []), (.list .nil 1 []), (.list .nil 4 []), (.list .nil 6 []), (.list .nil 5 []), .nilmap, .nilmap])),
aZ (.st 9 (aT 3) (aT 11))] [] [1, 2, 3])
(.seq
(.seq
(.reg [aF 12 4 1,
aL 13 12,
aO 14 (.len (aT 13)),
aO 15 (.mv (.val (.int .i64 0)))] [] [1, 2, 3, 13, 14, 15])
(.blk 0 (.loop (.seq
(.reg [aO 16 (.bin .lss (aT 15) (aT 14))] [] [1, 2, 3, 13, 14, 15, 16])
(.seq
(.cond (aT 16)
(.skip)
(.ext 0))
(.seq
(.blk 1 (.seq
(.reg [aI 17 4 13 15,
aN 18 4 17,
aO 5 (.zer 75 (.agg [(.int .i64 0), (.int .i64 0), (.int .i64 0), (.int .i64 0)])),
aZ (.st 4 (aT 5) (aT 18))] [] [1, 2, 3, 5, 13, 14, 15])
(.reg [aF 19 7 3,
aL 20 19,
aF 21 0 5,
aL 22 21,
aF 23 1 5,
aL 24 23,
aF 25 2 5,
aL 26 25,
aO 27 (.bld [(.int .i64 0), (.int .i64 0), (.int .i64 0)] [(0, 1, (aT 22)), (1, 1, (aT 24)), (2, 1, (aT 26))]),
aF 28 3 5,
aL 29 28,
aZ (.mup (some 3) (aT 20) (aT 27) (aT 29))] [] [1, 2, 3, 13, 14, 15])))
(.reg [aO 30 (.bin .add (aT 15) (.val (.int .i64 1))),
aM 15 30] [] [1, 2, 3, 13, 14, 15])))))))
(.seq
(.seq
(.reg [aF 31 5 1,
aL 32 31,
aO 33 (.len (aT 32)),
aO 34 (.mv (.val (.int .i64 0)))] [] [2, 3, 32, 33, 34])
(.blk 2 (.loop (.seq
(.reg [aO 35 (.bin .lss (aT 34) (aT 33))] [] [2, 3, 32, 33, 34, 35])
(.seq
(.cond (aT 35)
(.skip)
(.ext 2))
(.seq
(.blk 3 (.seq
(.reg [aI 36 6 32 34,
aN 37 6 36,
aO 7 (.zer 78 (.agg [(.int .i64 0), (.int .i64 0), (.int .i64 0), (.int .i64 0), (.int .i64 0), (.int .i64 0)])),
aZ (.st 6 (aT 7) (aT 37))] [] [2, 3, 7, 32, 33, 34])
(.reg [aF 38 8 3,
aL 39 38,
aF 40 0 7,
aN 41 3 40,
aF 43 3 7,
aN 44 3 43,
aO 45 (.bsl 1 3 [(.int .i64 0), (.int .i64 0), (.int .i64 0)] [(0, 3, (aT 44))]),
aO 46 (.mpe (some 3) (.list .nil 3 []) (aT 39) (aT 41)),
aO 42 (.ext 0 (aT 46)),
aO 47 (.app 54 3 24 (aT 42) (aT 45)),
aO 48 (.ext 1 (aT 46)),
aZ (.est (some 3) (aT 39) (aT 48) (aT 47))] [] [2, 3, 32, 33, 34])))
(.reg [aO 49 (.bin .add (aT 34) (.val (.int .i64 1))),
aM 34 49] [] [2, 3, 32, 33, 34])))))))
(.seq
(.reg [aN 50 9 3,
aZ (.st 9 (aT 2) (aT 50))] [] [2])
(.ret)))))⟩
theorem pf60_ok : fnOk Tryz.prog 60 pf60 = true := by kernel_rfl

/-- (hinterland/train.field).path -/
def pf61 : PFn := ⟨43, 2, [.tmp 4], .seq
(.reg [aO 2 (.boxp 90 (aT 0)),
aO 4 (.mv (.val (.bool false)))] [] [1, 2])
(.seq
(.reg [aO 9 (.mkm (some 2)),
aM 5 9] [] [1, 2, 5])
(.seq
(.seq
(.reg [aM 10 1,
aO 11 (.len (aT 10)),
aO 12 (.mv (.val (.int .i64 0)))] [] [1, 2, 5, 10, 11, 12])
(.blk 0 (.loop (.trim (.seq
(.reg [aO 13 (.bin .lss (aT 12) (aT 11))] [] [1, 2, 5, 10, 11, 12, 13])
(.seq
(.cond (aT 13)
(.skip)
(.ext 0))
(.seq
(.blk 1 (.seq
(.reg [aM 14 12,
aI 15 3 10 12,
aN 16 3 15,
aO 7 (.zer 54 (.agg [(.int .i64 0), (.int .i64 0), (.int .i64 0)])),
aM 6 14,
aZ (.st 3 (aT 7) (aT 16))] [] [1, 2, 5, 6, 7, 10, 11, 12])
(.seq
(.reg [aF 17 0 7,
aL 18 17,
aF 19 1 7,
aL 20 19,
aO 21 (.bld [(.int .i64 0), (.int .i64 0)] [(0, 1, (aT 18)), (1, 1, (aT 20))]),
aO 8 (.zer 133 (.agg [(.int .i64 0), (.int .i64 0)])),
aZ (.st 2 (aT 8) (aT 21))] [] [1, 2, 5, 6, 7, 8, 10, 11, 12])
(.seq
(.seq
(.reg [aM 22 5,
aN 23 2 8,
aO 24 (.mlk (some 2) (.bool false) false (aT 22) (aT 23)),
aM 25 24,
bM 26 25 false 6,
bO 27 25 false (.bin .gtr (aT 26) (.val (.int .i64 0))),
bM 28 25 false 27,
bN 29 28 true 9 2,
bM 30 28 true 1,
bM 31 28 true 6,
bO 32 28 true (.bin .sub (aT 31) (.val (.int .i64 1))),
bO 33 28 true (.iaS 3 (aT 30) (aT 32)),
bN 34 28 true 3 33,
bN 35 28 true 3 7,
bO 36 28 true (.call 110 .pure [(aT 29), (aT 34), (aT 35)]),
bO 37 28 true (.un .not (aT 36)),
bO 38 25 false (.pick (aT 28) (aT 37) (.val (.bool false))),
aO 39 (.pick (aT 25) (.val (.bool true)) (aT 38))] [] [1, 2, 5, 8, 10, 11, 12, 39])
(.cond (aT 39)
(.seq
(.reg [aO 4 (.mv (.val (.bool false)))] [] [4])
(.ret))
(.skip)))
(.reg [aM 40 5,
aN 41 2 8,
aZ (.mup (some 2) (aT 40) (aT 41) (.val (.bool true)))] [] [1, 2, 5, 10, 11, 12])))))
(.reg [aO 42 (.bin .add (aT 12) (.val (.int .i64 1))),
aM 12 42] [] [1, 2, 5, 10, 11, 12]))))))))
(.seq
(.reg [aO 4 (.mv (.val (.bool true)))] [] [4])
(.ret))))⟩
theorem pf61_ok : fnOk Tryz.prog 61 pf61 = true := by kernel_rfl

/-- (hinterland/train.field).held -/
def pf69 : PFn := ⟨41, 2, [.tmp 4], .seq
(.reg [aO 2 (.boxp 90 (aT 0)),
aO 4 (.mv (.val .nilmap))] [] [1, 2])
(.seq
(.reg [aO 10 (.mkm none),
aM 5 10] [] [1, 2, 5])
(.seq
(.seq
(.reg [aF 11 0 2,
aF 12 6 11,
aL 13 12,
aO 14 (.len (aT 13)),
aO 15 (.mv (.val (.int .i64 0)))] [] [1, 5, 13, 14, 15])
(.blk 0 (.loop (.trim (.seq
(.reg [aO 16 (.bin .lss (aT 15) (aT 14))] [] [1, 5, 13, 14, 15, 16])
(.seq
(.cond (aT 16)
(.skip)
(.ext 0))
(.seq
(.blk 1 (.seq
(.reg [aM 17 15,
aI 18 5 13 15,
aN 19 5 18,
aO 7 (.zer 68 (.agg [(.int .i64 0), (.int .i64 0), (.int .i64 0), (.list .nil 3 []), (.list .nil 3 [])])),
aM 6 17,
aZ (.st 5 (aT 7) (aT 19))] [] [1, 5, 6, 7, 13, 14, 15])
(.seq
(.seq
(.reg [aM 20 6,
aM 21 1,
aO 22 (.bin .eql (aT 20) (aT 21))] [] [1, 5, 7, 13, 14, 15, 22])
(.cond (aT 22)
(.ext 1)
(.skip)))
(.seq
(.reg [aN 23 5 7,
aO 24 (.call 59 .pure [(aT 23)]),
aO 25 (.len (aT 24)),
aO 26 (.mv (.val (.int .i64 0)))] [] [1, 5, 13, 14, 15, 24, 25, 26])
(.blk 2 (.loop (.trim (.seq
(.reg [aO 27 (.bin .lss (aT 26) (aT 25))] [] [1, 5, 13, 14, 15, 24, 25, 26, 27])
(.seq
(.cond (aT 27)
(.skip)
(.ext 2))
(.seq
(.blk 3 (.seq
(.reg [aI 28 3 24 26,
aN 29 3 28,
aO 9 (.zer 54 (.agg [(.int .i64 0), (.int .i64 0), (.int .i64 0)])),
aZ (.st 3 (aT 9) (aT 29))] [] [1, 5, 9, 13, 14, 15, 24, 25, 26])
(.reg [aM 30 5,
aF 31 0 9,
aL 32 31,
aO 33 (.mlk none (.int .i64 0) false (aT 30) (aT 32)),
aF 34 1 9,
aL 35 34,
aO 36 (.bin .shl (.val (.int .i64 1)) (aT 35)),
aO 37 (.bin .or (aT 33) (aT 36)),
aZ (.mup none (aT 30) (aT 32) (aT 37))] [] [1, 5, 13, 14, 15, 24, 25, 26])))
(.reg [aO 38 (.bin .add (aT 26) (.val (.int .i64 1))),
aM 26 38] [] [1, 5, 13, 14, 15, 24, 25, 26])))))))))))
(.reg [aO 39 (.bin .add (aT 15) (.val (.int .i64 1))),
aM 15 39] [] [1, 5, 13, 14, 15]))))))))
(.seq
(.reg [aM 40 5,
aM 4 40] [] [4])
(.ret))))⟩
theorem pf69_ok : fnOk Tryz.prog 69 pf69 = true := by kernel_rfl

/-- slices.ContainsFunc[[]hinterland/api.Spot,hinterland/api.Spot] -/
def pf70 : PFn := ⟨9, 2, [.tmp 4], .seq
(.reg [aO 4 (.mv (.val (.bool false)))] [] [0, 1])
(.seq
(.reg [aM 5 0,
aM 6 1,
aO 7 (.call 116 .pure [(aT 5), (aT 6)]),
aO 8 (.bin .geq (aT 7) (.val (.int .i64 0))),
aM 4 8] [] [4])
(.ret))⟩
theorem pf70_ok : fnOk Tryz.prog 70 pf70 = true := by kernel_rfl

/-- hinterland/train.Safe_1 -/
def pf71 : PFn := ⟨7, 2, [.tmp 3], .seq
(.reg [aO 2 (.boxp 54 (aT 0)),
aO 3 (.mv (.val (.bool false)))] [] [1, 2])
(.seq
(.reg [aL 4 1,
aN 5 3 2,
aO 6 (.call 72 .pure [(aT 4), (aT 5)]),
aM 3 6] [] [3])
(.ret))⟩
theorem pf71_ok : fnOk Tryz.prog 71 pf71 = true := by kernel_rfl

/-- hinterland/train.hit -/
def pf72 : PFn := ⟨24, 2, [.tmp 4], .seq
(.reg [aO 3 (.boxp 54 (aT 1)),
aO 4 (.mv (.val (.bool false)))] [] [0, 3])
(.seq
(.seq
(.reg [aO 6 (.mv (.val (.int .i64 0)))] [] [0, 3, 6])
(.blk 0 (.loop (.seq
(.reg [aO 7 (.bin .lss (aT 6) (.val (.int .i64 6)))] [] [0, 3, 6, 7])
(.seq
(.cond (aT 7)
(.skip)
(.ext 0))
(.seq
(.blk 1 (.seq
(.reg [aM 8 6,
aM 5 8] [] [0, 3, 5, 6])
(.seq
(.reg [aM 9 0,
aF 10 0 3,
aL 11 10,
aO 12 (.mlk none (.int .i64 0) false (aT 9) (aT 11)),
aM 13 5,
aO 14 (.bin .shr (aT 12) (aT 13)),
aO 15 (.bin .and (aT 14) (.val (.int .i64 1))),
aO 16 (.bin .eql (aT 15) (.val (.int .i64 1))),
aM 17 16,
bM 18 17 true 5,
bF 19 17 true 1 3,
bL 20 17 true 19,
bO 21 17 true (.call 117 .pure [(aT 18), (aT 20)]),
aO 22 (.pick (aT 17) (aT 21) (.val (.bool false)))] [] [0, 3, 6, 22])
(.cond (aT 22)
(.seq
(.reg [aO 4 (.mv (.val (.bool true)))] [] [4])
(.ret))
(.skip)))))
(.reg [aO 23 (.bin .add (aT 6) (.val (.int .i64 1))),
aM 6 23] [] [0, 3, 6])))))))
(.seq
(.reg [aO 4 (.mv (.val (.bool false)))] [] [4])
(.ret)))⟩
theorem pf72_ok : fnOk Tryz.prog 72 pf72 = true := by kernel_rfl

/-- hinterland/train.known -/
def pf75 : PFn := ⟨20, 2, [.tmp 4], .seq
(.reg [aO 2 (.boxp 30 (aT 0)),
aO 4 (.mv (.val (.int .i64 0)))] [] [1, 2])
(.seq
(.seq
(.reg [aN 6 7 2,
aO 7 (.call 21 .pure [(aT 6)]),
aM 5 7] [] [1, 2, 5])
(.seq
(.reg [aM 8 5,
aO 9 (.bin .neq (aT 8) (.val (.int .i64 0)))] [] [1, 2, 5, 9])
(.cond (aT 9)
(.seq
(.reg [aM 10 5,
aM 4 10] [] [4])
(.ret))
(.skip))))
(.seq
(.seq
(.reg [aM 11 1,
aO 12 (.bin .lss (aT 11) (.val (.int .i64 0))),
aM 13 12,
bM 14 13 false 1,
bF 15 13 false 6 2,
bL 16 13 false 15,
bO 17 13 false (.len (aT 16)),
bO 18 13 false (.bin .geq (aT 14) (aT 17)),
aO 19 (.pick (aT 13) (.val (.bool true)) (aT 18))] [] [19])
(.cond (aT 19)
(.seq
(.reg [aO 4 (.mv (.val (.int .i64 2)))] [] [4])
(.ret))
(.skip)))
(.seq
(.reg [aO 4 (.mv (.val (.int .i64 0)))] [] [4])
(.ret))))⟩
theorem pf75_ok : fnOk Tryz.prog 75 pf75 = true := by kernel_rfl

/-- hinterland/train.clone -/
def pf76 : PFn := ⟨56, 1, [.cell 2 (some 7)], .seq
(.reg [aO 1 (.boxm 30 (aT 0)),
aO 2 (.zer 30 (.agg [(.int .i64 0), (.int .i64 0), (.list .nil 1 []), (.list .nil 1 []), (.list .nil 4 []), (.list .nil 6 []), (.list .nil 5 [])]))] [] [1, 2])
(.seq
(.reg [aF 6 0 1,
aN 7 4 6,
aO 3 (.zer 25 (.agg [(.int .i64 0), (.int .i64 0), (.list .nil 1 []), (.list .nil 1 [])])),
aZ (.st 4 (aT 3) (aT 7))] [] [1, 2, 3])
(.seq
(.reg [aF 8 2 3,
aL 9 8,
aO 10 (.call 119 .pure [(aT 9)]),
aF 11 3 3,
aL 12 11,
aO 13 (.call 120 .pure [(aT 12)]),
aF 14 0 1,
aF 15 2 14,
aZ (.st 1 (aT 15) (aT 10)),
aF 16 0 1,
aF 17 3 16,
aZ (.st 1 (aT 17) (aT 13))] [] [1, 2])
(.seq
(.reg [aF 18 4 1,
aL 19 18,
aO 20 (.call 121 .pure [(aT 19)]),
aF 21 5 1,
aL 22 21,
aO 23 (.call 122 .pure [(aT 22)]),
aF 24 6 1,
aL 25 24,
aO 26 (.call 123 .opn [(aT 25)]),
aF 27 4 1,
aZ (.st 1 (aT 27) (aT 20)),
aF 28 5 1,
aZ (.st 1 (aT 28) (aT 23)),
aF 29 6 1,
aZ (.st 1 (aT 29) (aT 26))] [] [1, 2])
(.seq
(.seq
(.reg [aF 30 6 1,
aL 31 30,
aO 32 (.len (aT 31)),
aO 33 (.mv (.val (.int .i64 0)))] [] [1, 2, 31, 32, 33])
(.blk 0 (.loop (.trim (.seq
(.reg [aO 34 (.bin .lss (aT 33) (aT 32))] [] [1, 2, 31, 32, 33, 34])
(.seq
(.cond (aT 34)
(.skip)
(.ext 0))
(.seq
(.blk 1 (.seq
(.reg [aM 35 33,
aI 36 5 31 33,
aN 37 5 36,
aO 5 (.zer 68 (.agg [(.int .i64 0), (.int .i64 0), (.int .i64 0), (.list .nil 3 []), (.list .nil 3 [])])),
aM 4 35,
aZ (.st 5 (aT 5) (aT 37))] [] [1, 2, 4, 5, 31, 32, 33])
(.reg [aF 38 6 1,
aL 39 38,
aM 40 4,
aF 41 6 1,
aL 42 41,
aM 43 4,
aF 44 3 5,
aL 45 44,
aO 46 (.call 78 .pure [(aT 45)]),
aF 47 4 5,
aL 48 47,
aO 49 (.call 78 .pure [(aT 48)]),
aI 50 5 39 40,
aF 51 3 50,
aZ (.st 1 (aT 51) (aT 46)),
aI 52 5 42 43,
aF 53 4 52,
aZ (.st 1 (aT 53) (aT 49))] [(4, 14), (4, 15)] [1, 2, 31, 32, 33])))
(.reg [aO 54 (.bin .add (aT 33) (.val (.int .i64 1))),
aM 33 54] [] [1, 2, 31, 32, 33]))))))))
(.seq
(.reg [aN 55 7 1,
aZ (.st 7 (aT 2) (aT 55))] [] [2])
(.ret))))))⟩
theorem pf76_ok : fnOk Tryz.prog 76 pf76 = true := by kernel_rfl

/-- hinterland/train.move -/
def pf77 : PFn := ⟨84, 3, [.cell 6 (some 3), .tmp 7, .tmp 8], .seq
(.reg [aO 3 (.boxp 30 (aT 0)),
aO 6 (.zer 54 (.agg [(.int .i64 0), (.int .i64 0), (.int .i64 0)])),
aO 7 (.mv (.val (.list .nil 3 []))),
aO 8 (.mv (.val (.int .i64 0)))] [] [1, 2, 3, 6])
(.seq
(.reg [aF 16 6 3,
aL 17 16,
aM 18 1,
aI 19 5 17 18,
aN 20 5 19,
aO 9 (.zer 68 (.agg [(.int .i64 0), (.int .i64 0), (.int .i64 0), (.list .nil 3 []), (.list .nil 3 [])])),
aZ (.st 5 (aT 9) (aT 20))] [] [1, 2, 3, 6, 9])
(.seq
(.seq
(.reg [aF 21 4 9,
aL 22 21,
aO 23 (.len (aT 22)),
aO 24 (.bin .gtr (aT 23) (.val (.int .i64 0)))] [] [1, 2, 3, 6, 9, 24])
(.cond (aT 24)
(.seq
(.seq
(.reg [aF 25 4 9,
aL 26 25,
aO 27 (.iaS 3 (aT 26) (.val (.int .i64 0))),
aN 28 3 27,
aO 10 (.zer 54 (.agg [(.int .i64 0), (.int .i64 0), (.int .i64 0)])),
aZ (.st 3 (aT 10) (aT 28))] [] [6, 9, 10])
(.seq
(.reg [aN 29 5 9,
aN 30 3 10,
aF 31 4 9,
aL 32 31,
aO 33 (.slc 3 (aT 32) (some (.val (.int .i64 1))) none none),
aO 34 (.call 124 .pure [(aT 29), (aT 30), (aT 33)]),
aO 35 (.un .not (aT 34))] [] [6, 9, 10, 35])
(.cond (aT 35)
(.seq
(.reg [aN 36 3 10,
aF 37 4 9,
aL 38 37,
aO 39 (.slc 3 (aT 38) (some (.val (.int .i64 1))) none none),
aZ (.st 3 (aT 6) (aT 36)),
aM 7 39,
aO 8 (.mv (.val (.int .i64 0)))] [(2, 4), (2, 5)] [6, 7, 8])
(.ret))
(.skip))))
(.seq
(.reg [aO 40 (.bld [(.int .i64 0), (.int .i64 0), (.int .i64 0)] []),
aZ (.st 3 (aT 6) (aT 40)),
aO 7 (.mv (.val (.list .nil 3 []))),
aO 8 (.mv (.val (.int .i64 1)))] [] [6, 7, 8])
(.ret)))
(.skip)))
(.seq
(.reg [aN 41 7 3,
aO 42 (.call 60 .pure [(aT 41)]),
aM 43 1,
aF 44 3 9,
aL 45 44,
aO 46 (.iaS 3 (aT 45) (.val (.int .i64 0))),
aN 47 3 46,
aM 48 2,
aO 49 (.call 85 .pure [(aT 42), (aT 43), (aT 47), (aT 48)]),
aO 11 (.zer 117 (.agg [(.int .i64 0), (.int .i64 0), (.list .nil 1 []), (.list .nil 1 []), (.list .nil 4 []), (.list .nil 6 []), (.list .nil 5 []), .nilmap, .nilmap, .nilmap, .nilmap, .nilmap])),
aZ (.st 12 (aT 11) (aT 49))] [(0, 9), (0, 10), (1, 9), (1, 10), (4, 9), (4, 10), (6, 9), (6, 10), (8, 9), (8, 10)] [1, 6, 9, 11])
(.seq
(.reg [aN 51 12 11,
aF 52 3 9,
aL 53 52,
aO 54 (.iaS 3 (aT 53) (.val (.int .i64 0))),
aN 55 3 54,
aO 56 (.call 86 .pure [(aT 51), (aT 55)]),
aM 50 56,
aO 57 (.ext 0 (aT 50)),
aO 58 (.ext 1 (aT 50)),
aO 12 (.zer 54 (.agg [(.int .i64 0), (.int .i64 0), (.int .i64 0)])),
aZ (.st 3 (aT 12) (aT 57)),
aM 13 58] [(0, 9), (0, 10), (2, 9), (2, 10), (4, 9), (4, 10), (5, 9), (5, 10)] [1, 6, 9, 11, 12, 13])
(.seq
(.seq
(.reg [aM 59 13,
aO 60 (.un .not (aT 59))] [] [1, 6, 9, 11, 12, 60])
(.cond (aT 60)
(.seq
(.reg [aO 61 (.bld [(.int .i64 0), (.int .i64 0), (.int .i64 0)] []),
aZ (.st 3 (aT 6) (aT 61)),
aO 7 (.mv (.val (.list .nil 3 []))),
aO 8 (.mv (.val (.int .i64 2)))] [] [6, 7, 8])
(.ret))
(.skip)))
(.seq
(.reg [aN 63 12 11,
aM 64 1,
aN 65 3 12,
aO 66 (.call 125 .pure [(aT 63), (aT 64), (aT 65)]),
aM 62 66,
aO 67 (.ext 0 (aT 62)),
aO 68 (.ext 1 (aT 62)),
aM 14 67,
aM 15 68] [] [6, 9, 12, 14, 15])
(.seq
(.seq
(.reg [aM 69 15,
aO 70 (.un .not (aT 69)),
aM 71 70,
bN 72 71 false 5 9,
bN 73 71 false 3 12,
bO 74 71 false (.call 124 .pure [(aT 72), (aT 73), (.val (.list .nil 3 []))]),
aO 75 (.pick (aT 71) (.val (.bool true)) (aT 74))] [] [6, 12, 14, 75])
(.cond (aT 75)
(.seq
(.reg [aO 76 (.bld [(.int .i64 0), (.int .i64 0), (.int .i64 0)] []),
aZ (.st 3 (aT 6) (aT 76)),
aO 7 (.mv (.val (.list .nil 3 []))),
aO 8 (.mv (.val (.int .i64 1)))] [] [6, 7, 8])
(.ret))
(.skip)))
(.seq
(.seq
(.reg [aM 77 14,
aO 78 (.len (aT 77)),
aO 79 (.bin .gtr (aT 78) (.val (.int .i64 0)))] [] [6, 12, 14, 79])
(.cond (aT 79)
(.reg [aM 80 14,
aO 81 (.slc 3 (aT 80) (some (.val (.int .i64 1))) none none),
aM 14 81] [] [6, 12, 14])
(.skip)))
(.seq
(.reg [aN 82 3 12,
aM 83 14,
aZ (.st 3 (aT 6) (aT 82)),
aM 7 83,
aO 8 (.mv (.val (.int .i64 0)))] [] [6, 7, 8])
(.ret))))))))))⟩
theorem pf77_ok : fnOk Tryz.prog 77 pf77 = true := by kernel_rfl

/-- slices.Clone[[]hinterland/api.Spot,hinterland/api.Spot] -/
def pf78 : PFn := ⟨8, 1, [.tmp 2], .seq
(.reg [aO 2 (.mv (.val (.list .nil 3 [])))] [] [0])
(.seq
(.seq
(.reg [aM 3 0,
aO 4 (.eqn false (aT 3) (.val (.list .nil 1 [])))] [] [0, 4])
(.cond (aT 4)
(.seq
(.reg [aO 2 (.mv (.val (.list .nil 3 [])))] [] [2])
(.ret))
(.skip)))
(.seq
(.reg [aO 5 (.bsl 0 3 [(.int .i64 0), (.int .i64 0), (.int .i64 0)] []),
aM 6 0,
aO 7 (.app 54 3 24 (aT 5) (aT 6)),
aM 2 7] [] [2])
(.ret)))⟩
theorem pf78_ok : fnOk Tryz.prog 78 pf78 = true := by kernel_rfl

/-- slices.Contains[[]int,int] -/
def pf79 : PFn := ⟨9, 2, [.tmp 4], .seq
(.reg [aO 4 (.mv (.val (.bool false)))] [] [0, 1])
(.seq
(.reg [aM 5 0,
aM 6 1,
aO 7 (.call 126 .pure [(aT 5), (aT 6)]),
aO 8 (.bin .geq (aT 7) (.val (.int .i64 0))),
aM 4 8] [] [4])
(.ret))⟩
theorem pf79_ok : fnOk Tryz.prog 79 pf79 = true := by kernel_rfl

/-- hinterland/train.last -/
def pf84 : PFn := ⟨19, 1, [.cell 2 (some 3)], .seq
(.reg [aO 1 (.boxp 68 (aT 0)),
aO 2 (.zer 54 (.agg [(.int .i64 0), (.int .i64 0), (.int .i64 0)]))] [] [1, 2])
(.seq
(.seq
(.reg [aF 4 4 1,
aL 5 4,
aO 6 (.len (aT 5)),
aM 3 6] [] [1, 2, 3])
(.seq
(.reg [aM 7 3,
aO 8 (.bin .gtr (aT 7) (.val (.int .i64 0)))] [] [1, 2, 3, 8])
(.cond (aT 8)
(.seq
(.reg [aF 9 4 1,
aL 10 9,
aM 11 3,
aO 12 (.bin .sub (aT 11) (.val (.int .i64 1))),
aI 13 3 10 12,
aN 14 3 13,
aZ (.st 3 (aT 2) (aT 14))] [] [2])
(.ret))
(.skip))))
(.seq
(.reg [aF 15 3 1,
aL 16 15,
aO 17 (.iaS 3 (aT 16) (.val (.int .i64 0))),
aN 18 3 17,
aZ (.st 3 (aT 2) (aT 18))] [] [2])
(.ret)))⟩
theorem pf84_ok : fnOk Tryz.prog 84 pf84 = true := by kernel_rfl

/-- (hinterland/train.field).searchOf -/
def pf85 : PFn := ⟨102, 4, [.cell 8 (some 12)], .seq
(.reg [aO 4 (.boxp 90 (aT 0)),
aO 6 (.boxp 54 (aT 2)),
aO 8 (.zer 117 (.agg [(.int .i64 0), (.int .i64 0), (.list .nil 1 []), (.list .nil 1 []), (.list .nil 4 []), (.list .nil 6 []), (.list .nil 5 []), .nilmap, .nilmap, .nilmap, .nilmap, .nilmap]))] [] [1, 3, 4, 6, 8])
(.seq
(.reg [aN 19 9 4,
aN 20 9 4,
aM 21 1,
aO 22 (.call 69 .pure [(aT 20), (aT 21)]),
aO 23 (.mkm none),
aO 24 (.mkm (some 3)),
aO 25 (.bld [(.int .i64 0), (.int .i64 0), (.list .nil 1 []), (.list .nil 1 []), (.list .nil 4 []), (.list .nil 6 []), (.list .nil 5 []), .nilmap, .nilmap, .nilmap, .nilmap, .nilmap] [(0, 9, (aT 19)), (9, 1, (aT 22)), (10, 1, (aT 23)), (11, 1, (aT 24))]),
aO 9 (.zer 117 (.agg [(.int .i64 0), (.int .i64 0), (.list .nil 1 []), (.list .nil 1 []), (.list .nil 4 []), (.list .nil 6 []), (.list .nil 5 []), .nilmap, .nilmap, .nilmap, .nilmap, .nilmap])),
aZ (.st 12 (aT 9) (aT 25))] [(0, 0), (1, 0), (3, 0)] [3, 4, 6, 8, 9])
(.seq
(.seq
(.reg [aM 26 3,
aO 27 (.len (aT 26)),
aO 28 (.mv (.val (.int .i64 0)))] [] [4, 6, 8, 9, 26, 27, 28])
(.blk 0 (.loop (.seq
(.reg [aO 29 (.bin .lss (aT 28) (aT 27))] [] [4, 6, 8, 9, 26, 27, 28, 29])
(.seq
(.cond (aT 29)
(.skip)
(.ext 0))
(.seq
(.blk 1 (.seq
(.reg [aI 30 1 26 28,
aL 31 30,
aM 11 31] [] [4, 6, 8, 9, 11, 26, 27, 28])
(.reg [aF 32 10 9,
aL 33 32,
aM 34 11,
aZ (.mup none (aT 33) (aT 34) (.val (.bool true)))] [] [4, 6, 8, 9, 26, 27, 28])))
(.reg [aO 35 (.bin .add (aT 28) (.val (.int .i64 1))),
aM 28 35] [] [4, 6, 8, 9, 26, 27, 28])))))))
(.seq
(.reg [aO 36 (.mkm (some 3)),
aM 12 36] [] [4, 6, 8, 9, 12])
(.seq
(.reg [aO 37 (.mkm (some 3)),
aN 38 3 6,
aZ (.mup (some 3) (aT 37) (aT 38) (.val (.bool true))),
aM 39 37,
aM 13 39] [] [4, 6, 8, 9, 12, 13])
(.seq
(.reg [aO 14 (.mv (.val (.list .nil 3 [])))] [] [4, 6, 8, 9, 12, 13, 14])
(.seq
(.seq
(.reg [aN 40 3 6,
aO 41 (.bsl 1 3 [(.int .i64 0), (.int .i64 0), (.int .i64 0)] [(0, 3, (aT 40))]),
aM 15 41] [] [4, 8, 9, 12, 13, 14, 15])
(.blk 2 (.loop (.seq
(.seq
(.reg [aM 42 15,
aO 43 (.len (aT 42)),
aO 44 (.bin .gtr (aT 43) (.val (.int .i64 0)))] [] [4, 8, 9, 12, 13, 14, 15, 44])
(.cond (aT 44)
(.skip)
(.ext 2)))
(.seq
(.blk 3 (.seq
(.reg [aN 47 9 4,
aM 48 15,
aO 49 (.iaS 3 (aT 48) (.val (.int .i64 0))),
aN 50 3 49,
aO 51 (.call 91 .pure [(aT 47), (aT 50)]),
aO 52 (.len (aT 51)),
aO 53 (.mv (.val (.int .i64 0)))] [] [4, 8, 9, 12, 13, 14, 15, 51, 52, 53])
(.blk 4 (.loop (.seq
(.reg [aO 54 (.bin .lss (aT 53) (aT 52))] [] [4, 8, 9, 12, 13, 14, 15, 51, 52, 53, 54])
(.seq
(.cond (aT 54)
(.skip)
(.ext 4))
(.seq
(.blk 5 (.seq
(.reg [aI 55 3 51 53,
aN 56 3 55,
aO 17 (.zer 54 (.agg [(.int .i64 0), (.int .i64 0), (.int .i64 0)])),
aZ (.st 3 (aT 17) (aT 56))] [] [4, 8, 9, 12, 13, 14, 15, 17, 51, 52, 53])
(.seq
(.reg [aM 57 12,
aN 58 3 17,
aM 60 15,
aO 61 (.iaS 3 (aT 60) (.val (.int .i64 0))),
aN 62 3 61,
aO 63 (.bsl 1 3 [(.int .i64 0), (.int .i64 0), (.int .i64 0)] [(0, 3, (aT 62))]),
aO 64 (.mpe (some 3) (.list .nil 3 []) (aT 57) (aT 58)),
aO 59 (.ext 0 (aT 64)),
aO 65 (.app 54 3 24 (aT 59) (aT 63)),
aO 66 (.ext 1 (aT 64)),
aZ (.est (some 3) (aT 57) (aT 66) (aT 65))] [] [4, 8, 9, 12, 13, 14, 15, 17, 51, 52, 53])
(.seq
(.reg [aM 67 13,
aN 68 3 17,
aO 69 (.mlk (some 3) (.bool false) false (aT 67) (aT 68)),
aO 70 (.un .not (aT 69))] [] [4, 8, 9, 12, 13, 14, 15, 17, 51, 52, 53, 70])
(.cond (aT 70)
(.seq
(.reg [aM 71 13,
aN 72 3 17,
aZ (.mup (some 3) (aT 71) (aT 72) (.val (.bool true)))] [] [4, 8, 9, 12, 13, 14, 15, 17, 51, 52, 53])
(.reg [aM 73 15,
aN 74 3 17,
aO 75 (.bsl 1 3 [(.int .i64 0), (.int .i64 0), (.int .i64 0)] [(0, 3, (aT 74))]),
aO 76 (.app 54 3 24 (aT 73) (aT 75)),
aM 15 76] [] [4, 8, 9, 12, 13, 14, 15, 51, 52, 53]))
(.skip))))))
(.reg [aO 77 (.bin .add (aT 53) (.val (.int .i64 1))),
aM 53 77] [] [4, 8, 9, 12, 13, 14, 15, 51, 52, 53]))))))))
(.reg [aM 45 15,
aO 46 (.slc 3 (aT 45) (some (.val (.int .i64 1))) none none),
aM 15 46] [] [4, 8, 9, 12, 13, 14, 15]))))))
(.mrng ⟨[aM 78 13], (aT 78), 79, 80, 81, 82, [aO 83 (.ext 0 (aT 82)),
aO 18 (.zer 54 (.agg [(.int .i64 0), (.int .i64 0), (.int .i64 0)])),
aZ (.st 3 (aT 18) (aT 83))], [8, 9, 12, 14, 18, 79], 6, 7, [8]⟩
(.seq
(.reg [aF 84 10 9,
aL 85 84,
aF 86 0 18,
aL 87 86,
aO 88 (.mlk none (.bool false) false (aT 85) (aT 87))] [] [8, 9, 12, 14, 18, 79, 88])
(.cond (aT 88)
(.seq
(.reg [aF 89 11 9,
aL 90 89,
aN 91 3 18,
aO 92 (.bld [(.int .i64 0), (.int .i64 0)] []),
aZ (.mup (some 3) (aT 90) (aT 91) (aT 92))] [] [8, 9, 12, 14, 18, 79])
(.reg [aM 93 14,
aN 94 3 18,
aO 95 (.bsl 1 3 [(.int .i64 0), (.int .i64 0), (.int .i64 0)] [(0, 3, (aT 94))]),
aO 96 (.app 54 3 24 (aT 93) (aT 95)),
aM 14 96] [] [8, 9, 12, 14, 79]))
(.skip)))
(.seq
(.reg [aN 97 12 9,
aM 98 12,
aM 99 14,
aO 100 (.call 129 .opn [(aT 97), (aT 98), (aT 99)])] [] [8, 9])
(.seq
(.reg [aN 101 12 9,
aZ (.st 12 (aT 8) (aT 101))] [] [8])
(.ret))))))))))⟩
theorem pf85_ok : fnOk Tryz.prog 85 pf85 = true := by kernel_rfl

/-- (hinterland/train.search).choose -/
def pf86 : PFn := ⟨63, 2, [.cell 4 (some 3), .tmp 5], .seq
(.reg [aO 2 (.boxp 117 (aT 0)),
aO 3 (.boxp 54 (aT 1)),
aO 4 (.zer 54 (.agg [(.int .i64 0), (.int .i64 0), (.int .i64 0)])),
aO 5 (.mv (.val (.bool false)))] [] [2, 3, 4])
(.seq
(.reg [aF 15 0 2,
aN 16 9 15,
aN 17 3 3,
aO 18 (.call 91 .pure [(aT 16), (aT 17)]),
aM 6 18] [] [2, 4, 6])
(.seq
(.seq
(.reg [aM 19 6,
aO 20 (.len (aT 19)),
aO 21 (.bin .eql (aT 20) (.val (.int .i64 0)))] [] [2, 4, 6, 21])
(.cond (aT 21)
(.seq
(.reg [aO 22 (.bld [(.int .i64 0), (.int .i64 0), (.int .i64 0)] []),
aZ (.st 3 (aT 4) (aT 22)),
aO 5 (.mv (.val (.bool false)))] [] [4, 5])
(.ret))
(.skip)))
(.seq
(.reg [aM 23 6,
aO 24 (.iaS 3 (aT 23) (.val (.int .i64 0))),
aN 25 3 24,
aO 26 (.bld [(.int .i64 0), (.int .i64 0)] []),
aO 7 (.zer 54 (.agg [(.int .i64 0), (.int .i64 0), (.int .i64 0)])),
aO 8 (.zer 162 (.agg [(.int .i64 0), (.int .i64 0)])),
aZ (.st 3 (aT 7) (aT 25)),
aZ (.st 2 (aT 8) (aT 26)),
aO 9 (.mv (.val (.bool false)))] [] [2, 4, 6, 7, 8, 9])
(.seq
(.seq
(.reg [aM 27 6,
aO 28 (.len (aT 27)),
aO 29 (.mv (.val (.int .i64 0)))] [] [2, 4, 7, 8, 9, 27, 28, 29])
(.blk 0 (.loop (.trim (.seq
(.reg [aO 30 (.bin .lss (aT 29) (aT 28))] [] [2, 4, 7, 8, 9, 27, 28, 29, 30])
(.seq
(.cond (aT 30)
(.skip)
(.ext 0))
(.seq
(.blk 1 (.seq
(.reg [aI 31 3 27 29,
aN 32 3 31,
aO 11 (.zer 54 (.agg [(.int .i64 0), (.int .i64 0), (.int .i64 0)])),
aZ (.st 3 (aT 11) (aT 32))] [] [2, 4, 7, 8, 9, 11, 27, 28, 29])
(.seq
(.reg [aF 34 11 2,
aL 35 34,
aN 36 3 11,
aO 37 (.mlk (some 3) (.agg [(.int .i64 0), (.int .i64 0)]) true (aT 35) (aT 36)),
aM 33 37,
aO 38 (.ext 0 (aT 33)),
aO 39 (.ext 1 (aT 33)),
aO 12 (.zer 162 (.agg [(.int .i64 0), (.int .i64 0)])),
aZ (.st 2 (aT 12) (aT 38)),
aM 13 39] [] [2, 4, 7, 8, 9, 11, 12, 13, 27, 28, 29])
(.seq
(.seq
(.reg [aM 40 13,
aO 41 (.un .not (aT 40))] [] [2, 4, 7, 8, 9, 11, 12, 27, 28, 29, 41])
(.cond (aT 41)
(.ext 1)
(.skip)))
(.seq
(.reg [aF 42 0 12,
aL 43 42,
aN 44 12 2,
aN 45 3 11,
aO 46 (.call 130 .pure [(aT 44), (aT 45)]),
aO 47 (.bin .add (aT 43) (aT 46)),
aF 48 1 12,
aL 49 48,
aO 50 (.bin .add (aT 49) (.val (.int .i64 1))),
aO 51 (.bld [(.int .i64 0), (.int .i64 0)] [(0, 1, (aT 47)), (1, 1, (aT 50))]),
aO 14 (.zer 162 (.agg [(.int .i64 0), (.int .i64 0)])),
aZ (.st 2 (aT 14) (aT 51))] [(1, 10), (1, 11), (2, 10), (2, 11), (3, 10), (3, 11), (4, 10), (4, 11), (7, 10), (7, 11)] [2, 4, 7, 8, 9, 11, 14, 27, 28, 29])
(.seq
(.reg [aM 52 9,
aO 53 (.un .not (aT 52)),
aM 54 53,
bN 55 54 false 2 14,
bN 56 54 false 2 8,
bO 57 54 false (.call 131 .pure [(aT 55), (aT 56)]),
aO 58 (.pick (aT 54) (.val (.bool true)) (aT 57))] [] [2, 4, 7, 8, 9, 11, 14, 27, 28, 29, 58])
(.cond (aT 58)
(.reg [aN 59 3 11,
aN 60 2 14,
aZ (.st 3 (aT 7) (aT 59)),
aZ (.st 2 (aT 8) (aT 60)),
aO 9 (.mv (.val (.bool true)))] [(1, 2), (1, 3)] [2, 4, 7, 8, 9, 27, 28, 29])
(.skip))))))))
(.reg [aO 61 (.bin .add (aT 29) (.val (.int .i64 1))),
aM 29 61] [] [2, 4, 7, 8, 9, 27, 28, 29]))))))))
(.seq
(.reg [aN 62 3 7,
aZ (.st 3 (aT 4) (aT 62)),
aO 5 (.mv (.val (.bool true)))] [] [4, 5])
(.ret))))))⟩
theorem pf86_ok : fnOk Tryz.prog 86 pf86 = true := by kernel_rfl

/-- (hinterland/train.field).holder -/
def pf87 : PFn := ⟨29, 3, [.tmp 6], .seq
(.reg [aO 3 (.boxp 90 (aT 0)),
aO 5 (.boxp 54 (aT 2)),
aO 6 (.mv (.val (.int .i64 0)))] [] [1, 3, 5])
(.seq
(.seq
(.reg [aF 9 0 3,
aF 10 6 9,
aL 11 10,
aO 12 (.len (aT 11)),
aO 13 (.mv (.val (.int .i64 0)))] [] [1, 5, 11, 12, 13])
(.blk 0 (.loop (.trim (.seq
(.reg [aO 14 (.bin .lss (aT 13) (aT 12))] [] [1, 5, 11, 12, 13, 14])
(.seq
(.cond (aT 14)
(.skip)
(.ext 0))
(.seq
(.blk 1 (.seq
(.reg [aM 15 13,
aI 16 5 11 13,
aN 17 5 16,
aO 8 (.zer 68 (.agg [(.int .i64 0), (.int .i64 0), (.int .i64 0), (.list .nil 3 []), (.list .nil 3 [])])),
aM 7 15,
aZ (.st 5 (aT 8) (aT 17))] [] [1, 5, 7, 8, 11, 12, 13])
(.seq
(.reg [aM 18 7,
aM 19 1,
aO 20 (.bin .neq (aT 18) (aT 19)),
aM 21 20,
bN 22 21 true 5 8,
bO 23 21 true (.call 59 .pure [(aT 22)]),
bO 24 21 true (.mkf (.func 132) [] [(aT 5)]),
bO 25 21 true (.call 70 .pure [(aT 23), (aT 24)]),
aO 26 (.pick (aT 21) (aT 25) (.val (.bool false)))] [] [1, 5, 7, 11, 12, 13, 26])
(.cond (aT 26)
(.seq
(.reg [aM 27 7,
aM 6 27] [] [6])
(.ret))
(.skip)))))
(.reg [aO 28 (.bin .add (aT 13) (.val (.int .i64 1))),
aM 13 28] [] [1, 5, 11, 12, 13]))))))))
(.seq
(.reg [aO 6 (.mv (.val (.int .i64 (-1))))] [] [6])
(.ret)))⟩
theorem pf87_ok : fnOk Tryz.prog 87 pf87 = true := by kernel_rfl

/-- hinterland/rail.Next -/
def pf90 : PFn := ⟨17, 2, [.tmp 4, .tmp 5], .seq
(.reg [aO 2 (.boxp 25 (aT 0)),
aO 3 (.boxp 54 (aT 1)),
aO 4 (.mv (.val (.list .nil 3 []))),
aO 5 (.mv (.val (.int .i64 0)))] [] [2, 3])
(.seq
(.seq
(.reg [aN 7 4 2,
aN 8 3 3,
aO 9 (.bsl 1 3 [(.int .i64 0), (.int .i64 0), (.int .i64 0)] [(0, 3, (aT 8))]),
aO 10 (.call 134 .pure [(aT 7), (aT 9)]),
aM 6 10] [] [2, 3, 6])
(.seq
(.reg [aM 11 6,
aO 12 (.bin .neq (aT 11) (.val (.int .i64 0)))] [] [2, 3, 6, 12])
(.cond (aT 12)
(.seq
(.reg [aM 13 6,
aO 4 (.mv (.val (.list .nil 3 []))),
aM 5 13] [] [4, 5])
(.ret))
(.skip))))
(.seq
(.reg [aN 14 4 2,
aN 15 3 3,
aO 16 (.call 135 .pure [(aT 14), (aT 15)]),
aM 4 16,
aO 5 (.mv (.val (.int .i64 0)))] [] [4, 5])
(.ret)))⟩
theorem pf90_ok : fnOk Tryz.prog 90 pf90 = true := by kernel_rfl

/-- (hinterland/train.field).options -/
def pf91 : PFn := ⟨66, 2, [.tmp 4], .seq
(.reg [aO 2 (.boxp 90 (aT 0)),
aO 3 (.boxp 54 (aT 1)),
aO 4 (.mv (.val (.list .nil 3 [])))] [] [2, 3])
(.seq
(.reg [aO 5 (.nacc 54 3)] [] [2, 3, 5])
(.seq
(.reg [aF 13 7 2,
aL 14 13,
aN 15 3 3,
aO 16 (.mlk (some 3) (.int .i64 0) true (aT 14) (aT 15)),
aM 12 16,
aO 17 (.ext 0 (aT 12)),
aO 18 (.ext 1 (aT 12)),
aM 6 17,
aM 7 18] [] [2, 3, 5, 7])
(.seq
(.seq
(.reg [aN 19 9 2,
aN 20 3 3,
aO 21 (.call 136 .pure [(aT 19), (aT 20)]),
aO 22 (.len (aT 21)),
aO 23 (.mv (.val (.int .i64 0)))] [] [2, 3, 5, 7, 21, 22, 23])
(.blk 0 (.loop (.trim (.seq
(.reg [aO 24 (.bin .lss (aT 23) (aT 22))] [] [2, 3, 5, 7, 21, 22, 23, 24])
(.seq
(.cond (aT 24)
(.skip)
(.ext 0))
(.seq
(.blk 1 (.seq
(.reg [aI 25 3 21 23,
aN 26 3 25,
aO 9 (.zer 54 (.agg [(.int .i64 0), (.int .i64 0), (.int .i64 0)])),
aZ (.st 3 (aT 9) (aT 26))] [] [2, 3, 5, 7, 9, 21, 22, 23])
(.seq
(.reg [aF 28 7 2,
aL 29 28,
aF 30 0 9,
aL 31 30,
aF 32 1 9,
aL 33 32,
aF 34 2 3,
aL 35 34,
aO 36 (.bin .add (aT 35) (.val (.int .i64 2))),
aO 37 (.bin .rem (aT 36) (.val (.int .i64 4))),
aO 38 (.bld [(.int .i64 0), (.int .i64 0), (.int .i64 0)] [(0, 1, (aT 31)), (1, 1, (aT 33)), (2, 1, (aT 37))]),
aO 39 (.mlk (some 3) (.int .i64 0) true (aT 29) (aT 38)),
aM 27 39,
aO 40 (.ext 0 (aT 27)),
aO 41 (.ext 1 (aT 27)),
aM 10 40,
aM 11 41] [] [2, 3, 5, 7, 9, 10, 11, 21, 22, 23])
(.seq
(.reg [aM 42 7,
aM 43 42,
bM 44 43 false 11,
bO 45 43 false (.un .not (aT 44)),
aO 46 (.pick (aT 43) (.val (.bool true)) (aT 45)),
aM 47 46,
bM 48 47 false 10,
bO 49 47 false (.bin .eql (aT 48) (.val (.int .i64 4))),
aO 50 (.pick (aT 47) (.val (.bool true)) (aT 49))] [] [2, 3, 5, 7, 9, 21, 22, 23, 50])
(.cond (aT 50)
(.reg [aM 51 5,
aN 52 3 9,
aO 53 (.bsl 1 3 [(.int .i64 0), (.int .i64 0), (.int .i64 0)] [(0, 3, (aT 52))]),
aO 54 (.app 54 3 24 (aT 51) (aT 53)),
aM 5 54] [] [2, 3, 5, 7, 21, 22, 23])
(.skip))))))
(.reg [aO 55 (.bin .add (aT 23) (.val (.int .i64 1))),
aM 23 55] [] [2, 3, 5, 7, 21, 22, 23]))))))))
(.seq
(.reg [aM 56 5,
aF 57 8 2,
aL 58 57,
aN 59 3 3,
aO 60 (.mlk (some 3) (.list .nil 3 []) false (aT 58) (aT 59)),
aO 61 (.app 54 3 24 (aT 56) (aT 60)),
aM 5 61] [] [5])
(.seq
(.reg [aM 62 5,
aO 63 (.call 137 .opn [(aT 62), (.val (.clo (.func 56) [] []))])] [] [5])
(.seq
(.reg [aM 64 5,
aO 65 (.call 138 .opn [(aT 64)]),
aM 4 65] [] [4])
(.ret)))))))⟩
theorem pf91_ok : fnOk Tryz.prog 91 pf91 = true := by kernel_rfl

/-- slices.Contains[[]hinterland/api.Spot,hinterland/api.Spot] -/
def pf94 : PFn := ⟨9, 2, [.tmp 4], .seq
(.reg [aO 3 (.boxp 54 (aT 1)),
aO 4 (.mv (.val (.bool false)))] [] [0, 3])
(.seq
(.reg [aM 5 0,
aN 6 3 3,
aO 7 (.call 143 .pure [(aT 5), (aT 6)]),
aO 8 (.bin .geq (aT 7) (.val (.int .i64 0))),
aM 4 8] [] [4])
(.ret))⟩
theorem pf94_ok : fnOk Tryz.prog 94 pf94 = true := by kernel_rfl

/-- (hinterland/train.search).reserve -/
def pf95 : PFn := ⟨84, 3, [.tmp 6, .tmp 7], .seq
(.reg [aO 3 (.boxp 117 (aT 0)),
aO 4 (.boxp 68 (aT 1)),
aO 5 (.boxm 54 (aT 2)),
aO 6 (.mv (.val (.list .nil 3 []))),
aO 7 (.mv (.val (.bool false)))] [] [3, 4, 5])
(.seq
(.reg [aO 17 (.mkm (some 2)),
aM 8 17] [] [3, 4, 5, 8])
(.seq
(.seq
(.reg [aN 18 5 4,
aO 19 (.call 59 .pure [(aT 18)]),
aO 20 (.len (aT 19)),
aO 21 (.mv (.val (.int .i64 0)))] [] [3, 5, 8, 19, 20, 21])
(.blk 0 (.loop (.trim (.seq
(.reg [aO 22 (.bin .lss (aT 21) (aT 20))] [] [3, 5, 8, 19, 20, 21, 22])
(.seq
(.cond (aT 22)
(.skip)
(.ext 0))
(.seq
(.blk 1 (.seq
(.reg [aI 23 3 19 21,
aN 24 3 23,
aO 10 (.zer 54 (.agg [(.int .i64 0), (.int .i64 0), (.int .i64 0)])),
aZ (.st 3 (aT 10) (aT 24))] [] [3, 5, 8, 10, 19, 20, 21])
(.reg [aM 25 8,
aF 26 0 10,
aL 27 26,
aF 28 1 10,
aL 29 28,
aO 30 (.bld [(.int .i64 0), (.int .i64 0)] [(0, 1, (aT 27)), (1, 1, (aT 29))]),
aZ (.mup (some 2) (aT 25) (aT 30) (.val (.bool true)))] [] [3, 5, 8, 19, 20, 21])))
(.reg [aO 31 (.bin .add (aT 21) (.val (.int .i64 1))),
aM 21 31] [] [3, 5, 8, 19, 20, 21]))))))))
(.seq
(.reg [aO 11 (.nacc 54 3)] [] [3, 5, 8, 11])
(.blk 2 (.loop (.trim (.blk 3 (.seq
(.reg [aF 32 0 5,
aL 33 32,
aF 34 1 5,
aL 35 34,
aO 36 (.bld [(.int .i64 0), (.int .i64 0)] [(0, 1, (aT 33)), (1, 1, (aT 35))]),
aO 12 (.zer 133 (.agg [(.int .i64 0), (.int .i64 0)])),
aZ (.st 2 (aT 12) (aT 36))] [] [3, 5, 8, 11, 12])
(.seq
(.seq
(.reg [aM 37 8,
aN 38 2 12,
aO 39 (.mlk (some 2) (.bool false) false (aT 37) (aT 38)),
aM 40 39,
bF 41 40 false 9 3,
bL 42 40 false 41,
bN 43 40 false 3 5,
bO 44 40 false (.call 72 .pure [(aT 42), (aT 43)]),
aO 45 (.pick (aT 40) (.val (.bool true)) (aT 44)),
aM 46 45,
bM 47 46 false 11,
bO 48 46 false (.len (aT 47)),
bO 49 46 false (.bin .geq (aT 48) (.val (.int .i64 60))),
aO 50 (.pick (aT 46) (.val (.bool true)) (aT 49))] [] [3, 5, 8, 11, 12, 50])
(.cond (aT 50)
(.seq
(.reg [aO 6 (.mv (.val (.list .nil 3 []))),
aO 7 (.mv (.val (.bool false)))] [] [6, 7])
(.ret))
(.skip)))
(.seq
(.reg [aM 51 8,
aN 52 2 12,
aZ (.mup (some 2) (aT 51) (aT 52) (.val (.bool true)))] [] [3, 5, 8, 11])
(.seq
(.reg [aM 53 11,
aN 54 3 5,
aO 55 (.bsl 1 3 [(.int .i64 0), (.int .i64 0), (.int .i64 0)] [(0, 3, (aT 54))]),
aO 56 (.app 54 3 24 (aT 53) (aT 55)),
aM 11 56] [] [3, 5, 8, 11])
(.seq
(.seq
(.reg [aF 58 0 3,
aF 59 7 58,
aL 60 59,
aN 61 3 5,
aO 62 (.mlk (some 3) (.int .i64 0) true (aT 60) (aT 61)),
aM 57 62,
aO 63 (.ext 0 (aT 57)),
aO 64 (.ext 1 (aT 57)),
aM 13 63,
aM 14 64] [] [3, 5, 8, 11, 14])
(.seq
(.reg [aM 65 14,
aM 66 65,
bF 67 66 false 10 3,
bL 68 66 false 67,
bF 69 66 false 0 5,
bL 70 66 false 69,
bO 71 66 false (.mlk none (.bool false) false (aT 68) (aT 70)),
aO 72 (.pick (aT 66) (.val (.bool true)) (aT 71))] [] [3, 5, 8, 11, 72])
(.cond (aT 72)
(.seq
(.reg [aM 73 11,
aM 6 73,
aO 7 (.mv (.val (.bool true)))] [] [6, 7])
(.ret))
(.skip))))
(.seq
(.reg [aN 75 12 3,
aN 76 3 5,
aO 77 (.call 86 .pure [(aT 75), (aT 76)]),
aM 74 77,
aO 78 (.ext 0 (aT 74)),
aO 79 (.ext 1 (aT 74)),
aO 15 (.zer 54 (.agg [(.int .i64 0), (.int .i64 0), (.int .i64 0)])),
aZ (.st 3 (aT 15) (aT 78)),
aM 16 79] [] [3, 5, 8, 11, 15, 16])
(.seq
(.seq
(.reg [aM 80 16,
aO 81 (.un .not (aT 80))] [] [3, 5, 8, 11, 15, 81])
(.cond (aT 81)
(.seq
(.reg [aM 82 11,
aM 6 82,
aO 7 (.mv (.val (.bool true)))] [] [6, 7])
(.ret))
(.skip)))
(.reg [aN 83 3 15,
aZ (.st 3 (aT 5) (aT 83))] [] [3, 5, 8, 11])))))))))))))))⟩
theorem pf95_ok : fnOk Tryz.prog 95 pf95 = true := by kernel_rfl

/-- hinterland/train.blocks -/
def pf97 : PFn := ⟨43, 1, [.tmp 2], .seq
(.reg [aO 1 (.boxp 30 (aT 0)),
aO 2 (.mv (.val .nilmap))] [] [1])
(.seq
(.reg [aO 10 (.mkm (some 2)),
aM 3 10] [] [1, 3])
(.seq
(.reg [aF 12 0 1,
aN 13 4 12,
aF 14 4 1,
aL 15 14,
aO 16 (.call 145 .pure [(aT 13), (aT 15)]),
aM 11 16,
aO 17 (.ext 0 (aT 11)),
aO 18 (.ext 1 (aT 11)),
aM 4 17,
aM 5 18] [] [3, 4])
(.seq
(.seq
(.reg [aM 19 4,
aO 20 (.len (aT 19)),
aO 21 (.mv (.val (.int .i64 0)))] [] [3, 19, 20, 21])
(.blk 0 (.loop (.trim (.seq
(.reg [aO 22 (.bin .lss (aT 21) (aT 20))] [] [3, 19, 20, 21, 22])
(.seq
(.cond (aT 22)
(.skip)
(.ext 0))
(.seq
(.blk 1 (.seq
(.reg [aI 23 2 19 21,
aN 24 2 23,
aO 7 (.zer 179 (.agg [(.int .i64 0), (.list .nil 1 [])])),
aZ (.st 2 (aT 7) (aT 24))] [] [3, 7, 19, 20, 21])
(.seq
(.reg [aF 25 1 7,
aL 26 25,
aO 27 (.len (aT 26)),
aO 28 (.mv (.val (.int .i64 0)))] [] [3, 7, 19, 20, 21, 26, 27, 28])
(.blk 2 (.loop (.seq
(.reg [aO 29 (.bin .lss (aT 28) (aT 27))] [] [3, 7, 19, 20, 21, 26, 27, 28, 29])
(.seq
(.cond (aT 29)
(.skip)
(.ext 2))
(.seq
(.blk 3 (.seq
(.reg [aI 30 1 26 28,
aL 31 30,
aM 9 31] [] [3, 7, 9, 19, 20, 21, 26, 27, 28])
(.reg [aM 32 3,
aM 33 9,
aO 34 (.bin .quo (aT 33) (.val (.int .i64 8))),
aM 35 9,
aO 36 (.bin .rem (aT 35) (.val (.int .i64 8))),
aO 37 (.bld [(.int .i64 0), (.int .i64 0)] [(0, 1, (aT 34)), (1, 1, (aT 36))]),
aF 38 0 7,
aL 39 38,
aZ (.mup (some 2) (aT 32) (aT 37) (aT 39))] [] [3, 7, 19, 20, 21, 26, 27, 28])))
(.reg [aO 40 (.bin .add (aT 28) (.val (.int .i64 1))),
aM 28 40] [] [3, 7, 19, 20, 21, 26, 27, 28])))))))))
(.reg [aO 41 (.bin .add (aT 21) (.val (.int .i64 1))),
aM 21 41] [] [3, 19, 20, 21]))))))))
(.seq
(.reg [aM 42 3,
aM 2 42] [] [2])
(.ret)))))⟩
theorem pf97_ok : fnOk Tryz.prog 97 pf97 = true := by kernel_rfl

/-- (hinterland/train.field).heldBlocks -/
def pf98 : PFn := ⟨41, 3, [.tmp 6], .seq
(.reg [aO 3 (.boxp 90 (aT 0)),
aO 6 (.mv (.val (.list .nil 1 [])))] [] [1, 2, 3])
(.seq
(.reg [aO 7 (.nacc 3 1)] [] [1, 2, 3, 7])
(.mrng ⟨[aN 11 9 3,
aM 12 1,
aO 13 (.call 69 .pure [(aT 11), (aT 12)])], (aT 13), 14, 15, 16, 17, [aO 18 (.ext 0 (aT 17)),
aO 19 (.ext 1 (aT 17)),
aM 8 18,
aM 9 19], [2, 7, 8, 9, 14], 0, 1, [6]⟩
(.seq
(.reg [aO 20 (.mv (.val (.int .i64 0)))] [] [2, 7, 8, 9, 14, 20])
(.blk 2 (.loop (.seq
(.reg [aO 21 (.bin .lss (aT 20) (.val (.int .i64 6)))] [] [2, 7, 8, 9, 14, 20, 21])
(.seq
(.cond (aT 21)
(.skip)
(.ext 2))
(.seq
(.blk 3 (.seq
(.reg [aM 22 20,
aM 10 22] [] [2, 7, 8, 9, 10, 14, 20])
(.seq
(.reg [aM 23 9,
aM 24 10,
aO 25 (.bin .shr (aT 23) (aT 24)),
aO 26 (.bin .and (aT 25) (.val (.int .i64 1))),
aO 27 (.bin .eql (aT 26) (.val (.int .i64 1)))] [] [2, 7, 8, 9, 10, 14, 20, 27])
(.cond (aT 27)
(.reg [aM 28 7,
aM 29 2,
aM 30 8,
aM 31 10,
aO 32 (.bld [(.int .i64 0), (.int .i64 0)] [(0, 1, (aT 30)), (1, 1, (aT 31))]),
aO 33 (.mlk (some 2) (.int .i64 0) false (aT 29) (aT 32)),
aO 34 (.bsl 1 1 [(.int .i64 0)] [(0, 1, (aT 33))]),
aO 35 (.app 3 1 8 (aT 28) (aT 34)),
aM 7 35] [] [2, 7, 8, 9, 14, 20])
(.skip)))))
(.reg [aO 36 (.bin .add (aT 20) (.val (.int .i64 1))),
aM 20 36] [] [2, 7, 8, 9, 14, 20])))))))
(.seq
(.reg [aM 37 7,
aO 38 (.call 146 .opn [(aT 37)])] [] [7])
(.seq
(.reg [aM 39 7,
aO 40 (.call 147 .opn [(aT 39)]),
aM 6 40] [] [6])
(.ret)))))⟩
theorem pf98_ok : fnOk Tryz.prog 98 pf98 = true := by kernel_rfl

/-- hinterland/train.ends -/
def pf102 : PFn := ⟨15, 1, [.tmp 2, .tmp 3], .seq
(.reg [aO 2 (.mv (.val (.int .i64 0))),
aO 3 (.mv (.val (.int .i64 0)))] [] [0])
(.seq
(.seq
(.reg [aM 4 0] [] [4])
(.blk 0 (.seq
(.reg [aO 6 (.bin .eql (aT 4) (.val (.int .i64 0))),
aM 5 6] [] [4, 5])
(.cond (aT 5)
(.seq
(.reg [aO 2 (.mv (.val (.int .i64 0))),
aO 3 (.mv (.val (.int .i64 2)))] [] [2, 3])
(.ret))
(.seq
(.reg [aO 8 (.bin .eql (aT 4) (.val (.int .i64 1))),
aM 7 8] [] [4, 7])
(.cond (aT 7)
(.seq
(.reg [aO 2 (.mv (.val (.int .i64 1))),
aO 3 (.mv (.val (.int .i64 3)))] [] [2, 3])
(.ret))
(.seq
(.reg [aO 10 (.bin .eql (aT 4) (.val (.int .i64 2))),
aM 9 10] [] [4, 9])
(.cond (aT 9)
(.seq
(.reg [aO 2 (.mv (.val (.int .i64 0))),
aO 3 (.mv (.val (.int .i64 1)))] [] [2, 3])
(.ret))
(.seq
(.reg [aO 12 (.bin .eql (aT 4) (.val (.int .i64 3))),
aM 11 12] [] [4, 11])
(.cond (aT 11)
(.seq
(.reg [aO 2 (.mv (.val (.int .i64 1))),
aO 3 (.mv (.val (.int .i64 2)))] [] [2, 3])
(.ret))
(.seq
(.reg [aO 14 (.bin .eql (aT 4) (.val (.int .i64 4))),
aM 13 14] [] [13])
(.cond (aT 13)
(.seq
(.reg [aO 2 (.mv (.val (.int .i64 2))),
aO 3 (.mv (.val (.int .i64 3)))] [] [2, 3])
(.ret))
(.skip)))))))))))))
(.seq
(.reg [aO 2 (.mv (.val (.int .i64 3))),
aO 3 (.mv (.val (.int .i64 0)))] [] [2, 3])
(.ret)))⟩
theorem pf102_ok : fnOk Tryz.prog 102 pf102 = true := by kernel_rfl

/-- hinterland/rail.Validate -/
def pf104 : PFn := ⟨71, 1, [.tmp 2], .seq
(.reg [aO 1 (.boxp 25 (aT 0)),
aO 2 (.mv (.val (.int .i64 0)))] [] [1])
(.seq
(.seq
(.reg [aF 5 0 1,
aL 6 5,
aO 7 (.bin .lss (aT 6) (.val (.int .i64 4))),
aM 8 7,
bF 9 8 false 0 1,
bL 10 8 false 9,
bO 11 8 false (.bin .gtr (aT 10) (.val (.int .i64 32))),
aO 12 (.pick (aT 8) (.val (.bool true)) (aT 11)),
aM 13 12,
bF 14 13 false 1 1,
bL 15 13 false 14,
bO 16 13 false (.bin .lss (aT 15) (.val (.int .i64 4))),
aO 17 (.pick (aT 13) (.val (.bool true)) (aT 16)),
aM 18 17,
bF 19 18 false 1 1,
bL 20 18 false 19,
bO 21 18 false (.bin .gtr (aT 20) (.val (.int .i64 32))),
aO 22 (.pick (aT 18) (.val (.bool true)) (aT 21)),
aM 23 22,
bF 24 23 false 2 1,
bL 25 23 false 24,
bO 26 23 false (.len (aT 25)),
bF 27 23 false 0 1,
bL 28 23 false 27,
bF 29 23 false 1 1,
bL 30 23 false 29,
bO 31 23 false (.bin .mul (aT 28) (aT 30)),
bO 32 23 false (.bin .neq (aT 26) (aT 31)),
aO 33 (.pick (aT 23) (.val (.bool true)) (aT 32)),
aM 34 33,
bF 35 34 false 3 1,
bL 36 34 false 35,
bO 37 34 false (.len (aT 36)),
bF 38 34 false 0 1,
bL 39 34 false 38,
bF 40 34 false 1 1,
bL 41 34 false 40,
bO 42 34 false (.bin .mul (aT 39) (aT 41)),
bO 43 34 false (.bin .neq (aT 37) (aT 42)),
aO 44 (.pick (aT 34) (.val (.bool true)) (aT 43))] [] [1, 44])
(.cond (aT 44)
(.seq
(.reg [aO 2 (.mv (.val (.int .i64 1)))] [] [2])
(.ret))
(.skip)))
(.seq
(.seq
(.reg [aF 45 2 1,
aL 46 45,
aO 47 (.len (aT 46)),
aO 48 (.mv (.val (.int .i64 0)))] [] [1, 46, 47, 48])
(.blk 0 (.loop (.seq
(.reg [aO 49 (.bin .lss (aT 48) (aT 47))] [] [1, 46, 47, 48, 49])
(.seq
(.cond (aT 49)
(.skip)
(.ext 0))
(.seq
(.blk 1 (.seq
(.reg [aM 50 48,
aI 51 1 46 48,
aL 52 51,
aM 3 50,
aM 4 52] [] [1, 3, 4, 46, 47, 48])
(.seq
(.reg [aM 53 4,
aO 54 (.bin .lss (aT 53) (.val (.int .i64 0))),
aM 55 54,
bM 56 55 false 4,
bO 57 55 false (.bin .geq (aT 56) (.val (.int .i64 64))),
aO 58 (.pick (aT 55) (.val (.bool true)) (aT 57)),
aM 59 58,
bM 60 59 false 4,
bO 61 59 false (.bin .eql (aT 60) (.val (.int .i64 0))),
bM 62 59 false 61,
bF 63 62 true 3 1,
bL 64 62 true 63,
bM 65 62 true 3,
bO 66 62 true (.iaS 1 (aT 64) (aT 65)),
bL 67 62 true 66,
bO 68 59 false (.pick (aT 62) (aT 67) (.val (.bool false))),
aO 69 (.pick (aT 59) (.val (.bool true)) (aT 68))] [] [1, 46, 47, 48, 69])
(.cond (aT 69)
(.seq
(.reg [aO 2 (.mv (.val (.int .i64 1)))] [] [2])
(.ret))
(.skip)))))
(.reg [aO 70 (.bin .add (aT 48) (.val (.int .i64 1))),
aM 48 70] [] [1, 46, 47, 48])))))))
(.seq
(.reg [aO 2 (.mv (.val (.int .i64 0)))] [] [2])
(.ret))))⟩
theorem pf104_ok : fnOk Tryz.prog 104 pf104 = true := by kernel_rfl

/-- hinterland/block.compare -/
def pf105 : PFn := ⟨22, 2, [.tmp 4], .seq
(.reg [aO 2 (.boxp 75 (aT 0)),
aO 3 (.boxp 75 (aT 1)),
aO 4 (.mv (.val (.int .i64 0)))] [] [2, 3])
(.seq
(.reg [aF 5 0 2,
aL 6 5,
aF 7 0 3,
aL 8 7,
aO 9 (.call 108 .pure [(aT 6), (aT 8)]),
aF 10 1 2,
aL 11 10,
aF 12 1 3,
aL 13 12,
aO 14 (.call 108 .pure [(aT 11), (aT 13)]),
aF 15 2 2,
aL 16 15,
aF 17 2 3,
aL 18 17,
aO 19 (.call 108 .pure [(aT 16), (aT 18)]),
aO 20 (.bsl 3 1 [(.int .i64 0)] [(0, 1, (aT 9)), (1, 1, (aT 14)), (2, 1, (aT 19))]),
aO 21 (.call 55 .pure [(aT 20)]),
aM 4 21] [] [4])
(.ret))⟩
theorem pf105_ok : fnOk Tryz.prog 105 pf105 = true := by kernel_rfl

/-- hinterland/block.lies -/
def pf106 : PFn := ⟨37, 3, [.tmp 6], .seq
(.reg [aO 3 (.boxp 25 (aT 0)),
aO 6 (.mv (.val (.bool false)))] [] [1, 2, 3])
(.seq
(.reg [aM 7 1,
aO 8 (.bin .geq (aT 7) (.val (.int .i64 0))),
aM 9 8,
bM 10 9 true 1,
bF 11 9 true 0 3,
bL 12 9 true 11,
bF 13 9 true 1 3,
bL 14 9 true 13,
bO 15 9 true (.bin .mul (aT 12) (aT 14)),
bO 16 9 true (.bin .lss (aT 10) (aT 15)),
aO 17 (.pick (aT 9) (aT 16) (.val (.bool false))),
aM 18 17,
bM 19 18 true 2,
bO 20 18 true (.bin .geq (aT 19) (.val (.int .i64 0))),
aO 21 (.pick (aT 18) (aT 20) (.val (.bool false))),
aM 22 21,
bM 23 22 true 2,
bO 24 22 true (.bin .lss (aT 23) (.val (.int .i64 6))),
aO 25 (.pick (aT 22) (aT 24) (.val (.bool false))),
aM 26 25,
bF 27 26 true 2 3,
bL 28 26 true 27,
bM 29 26 true 1,
bO 30 26 true (.iaS 1 (aT 28) (aT 29)),
bL 31 26 true 30,
bM 32 26 true 2,
bO 33 26 true (.bin .shr (aT 31) (aT 32)),
bO 34 26 true (.bin .and (aT 33) (.val (.int .i64 1))),
bO 35 26 true (.bin .eql (aT 34) (.val (.int .i64 1))),
aO 36 (.pick (aT 26) (aT 35) (.val (.bool false))),
aM 6 36] [] [6])
(.ret))⟩
theorem pf106_ok : fnOk Tryz.prog 106 pf106 = true := by kernel_rfl

/-- hinterland/block.end -/
def pf107 : PFn := ⟨26, 2, [.tmp 4], .seq
(.reg [aO 4 (.mv (.val (.bool false)))] [] [0, 1])
(.seq
(.reg [aM 9 0,
aO 10 (.call 149 .pure [(aT 9)]),
aM 8 10,
aO 11 (.ext 0 (aT 8)),
aO 12 (.ext 1 (aT 8)),
aO 13 (.ext 2 (aT 8)),
aM 5 11,
aM 6 12,
aM 7 13] [] [1, 5, 6, 7])
(.seq
(.reg [aM 14 7,
aO 15 (.bin .eql (aT 14) (.val (.int .i64 0))),
aM 16 15,
bM 17 16 true 1,
bM 18 16 true 5,
bO 19 16 true (.bin .eql (aT 17) (aT 18)),
bM 20 16 true 19,
bM 21 20 false 1,
bM 22 20 false 6,
bO 23 20 false (.bin .eql (aT 21) (aT 22)),
bO 24 16 true (.pick (aT 20) (.val (.bool true)) (aT 23)),
aO 25 (.pick (aT 16) (aT 24) (.val (.bool false))),
aM 4 25] [] [4])
(.ret)))⟩
theorem pf107_ok : fnOk Tryz.prog 107 pf107 = true := by kernel_rfl

/-- cmp.Compare[int] -/
def pf108 : PFn := ⟨20, 2, [.tmp 4], .seq
(.reg [aO 4 (.mv (.val (.int .i64 0)))] [] [0, 1])
(.seq
(.reg [aM 7 0,
aO 8 (.call 150 .pure [(aT 7)]),
aM 5 8] [] [0, 1, 5])
(.seq
(.reg [aM 9 1,
aO 10 (.call 150 .pure [(aT 9)]),
aM 6 10] [] [0, 1, 5, 6])
(.seq
(.seq
(.reg [aM 11 5] [] [0, 1, 6, 11])
(.cond (aT 11)
(.seq
(.seq
(.reg [aM 12 6] [] [12])
(.cond (aT 12)
(.seq
(.reg [aO 4 (.mv (.val (.int .i64 0)))] [] [4])
(.ret))
(.skip)))
(.seq
(.reg [aO 4 (.mv (.val (.int .i64 (-1))))] [] [4])
(.ret)))
(.skip)))
(.seq
(.seq
(.reg [aM 13 6] [] [0, 1, 13])
(.cond (aT 13)
(.seq
(.reg [aO 4 (.mv (.val (.int .i64 1)))] [] [4])
(.ret))
(.skip)))
(.seq
(.seq
(.reg [aM 14 0,
aM 15 1,
aO 16 (.bin .lss (aT 14) (aT 15))] [] [0, 1, 16])
(.cond (aT 16)
(.seq
(.reg [aO 4 (.mv (.val (.int .i64 (-1))))] [] [4])
(.ret))
(.skip)))
(.seq
(.seq
(.reg [aM 17 0,
aM 18 1,
aO 19 (.bin .gtr (aT 17) (aT 18))] [] [19])
(.cond (aT 19)
(.seq
(.reg [aO 4 (.mv (.val (.int .i64 1)))] [] [4])
(.ret))
(.skip)))
(.seq
(.reg [aO 4 (.mv (.val (.int .i64 0)))] [] [4])
(.ret))))))))⟩
theorem pf108_ok : fnOk Tryz.prog 108 pf108 = true := by kernel_rfl

/-- slices.Reverse[[]hinterland/api.Spot,hinterland/api.Spot] -/
def pf109 : PFn := ⟨28, 1, [], .seq
(.reg [aM 4 0,
aO 5 (.len (aT 4)),
aO 6 (.bin .sub (aT 5) (.val (.int .i64 1))),
aO 2 (.mv (.val (.int .i64 0))),
aM 3 6] [] [0, 2, 3])
(.blk 0 (.loop (.seq
(.seq
(.reg [aM 7 2,
aM 8 3,
aO 9 (.bin .lss (aT 7) (aT 8))] [] [0, 2, 3, 9])
(.cond (aT 9)
(.skip)
(.ext 0)))
(.seq
(.blk 1 (.reg [aM 14 0,
aM 15 2,
aM 16 0,
aM 17 3,
aM 18 0,
aM 19 3,
aI 20 3 18 19,
aN 21 3 20,
aM 22 0,
aM 23 2,
aI 24 3 22 23,
aN 25 3 24,
aI 26 3 14 15,
aZ (.st 3 (aT 26) (aT 21)),
aI 27 3 16 17,
aZ (.st 3 (aT 27) (aT 25))] [] [0, 2, 3]))
(.reg [aM 10 2,
aO 11 (.bin .add (aT 10) (.val (.int .i64 1))),
aM 12 3,
aO 13 (.bin .sub (aT 12) (.val (.int .i64 1))),
aM 2 11,
aM 3 13] [] [0, 2, 3])))))⟩
theorem pf109_ok : fnOk Tryz.prog 109 pf109 = true := by kernel_rfl

/-- (hinterland/train.field).follows -/
def pf110 : PFn := ⟨20, 3, [.tmp 6], .seq
(.reg [aO 3 (.boxp 90 (aT 0)),
aO 4 (.boxp 54 (aT 1)),
aO 5 (.boxp 54 (aT 2)),
aO 6 (.mv (.val (.bool false)))] [] [3, 4, 5])
(.seq
(.reg [aN 7 9 3,
aN 8 3 4,
aO 9 (.call 136 .pure [(aT 7), (aT 8)]),
aN 10 3 5,
aO 11 (.call 94 .pure [(aT 9), (aT 10)]),
aM 12 11,
bF 13 12 false 8 3,
bL 14 12 false 13,
bN 15 12 false 3 4,
bO 16 12 false (.mlk (some 3) (.list .nil 3 []) false (aT 14) (aT 15)),
bN 17 12 false 3 5,
bO 18 12 false (.call 94 .pure [(aT 16), (aT 17)]),
aO 19 (.pick (aT 12) (.val (.bool true)) (aT 18)),
aM 6 19] [] [6])
(.ret))⟩
theorem pf110_ok : fnOk Tryz.prog 110 pf110 = true := by kernel_rfl

/-- slices.IndexFunc[[]hinterland/api.Spot,hinterland/api.Spot] -/
def pf116 : PFn := ⟨19, 2, [.tmp 4], .seq
(.reg [aO 4 (.mv (.val (.int .i64 0)))] [] [0, 1])
(.seq
(.seq
(.reg [aM 6 0,
aO 7 (.len (aT 6)),
aO 8 (.mv (.val (.int .i64 0)))] [] [0, 1, 7, 8])
(.blk 0 (.loop (.seq
(.reg [aO 9 (.bin .lss (aT 8) (aT 7))] [] [0, 1, 7, 8, 9])
(.seq
(.cond (aT 9)
(.skip)
(.ext 0))
(.seq
(.blk 1 (.seq
(.reg [aM 10 8,
aM 5 10] [] [0, 1, 5, 7, 8])
(.seq
(.reg [aM 11 1,
aM 12 0,
aM 13 5,
aI 14 3 12 13,
aN 15 3 14,
aO 16 (.callv (aT 11) .pure [(aT 15)])] [] [0, 1, 5, 7, 8, 16])
(.cond (aT 16)
(.seq
(.reg [aM 17 5,
aM 4 17] [] [4])
(.ret))
(.skip)))))
(.reg [aO 18 (.bin .add (aT 8) (.val (.int .i64 1))),
aM 8 18] [] [0, 1, 7, 8])))))))
(.seq
(.reg [aO 4 (.mv (.val (.int .i64 (-1))))] [] [4])
(.ret)))⟩
theorem pf116_ok : fnOk Tryz.prog 116 pf116 = true := by kernel_rfl

/-- hinterland/train.clash -/
def pf117 : PFn := ⟨39, 2, [.tmp 4], .seq
(.reg [aO 4 (.mv (.val (.bool false)))] [] [0, 1])
(.seq
(.reg [aM 5 0,
aM 6 1,
aO 7 (.bin .eql (aT 5) (aT 6)),
aM 8 7,
bM 9 8 false 0,
bM 10 8 false 1,
bO 11 8 false (.bin .add (aT 9) (aT 10)),
bO 12 8 false (.bin .eql (aT 11) (.val (.int .i64 6))),
bM 13 8 false 12,
bM 14 13 true 0,
bM 15 13 true 1,
bO 16 13 true (.bin .neq (aT 14) (aT 15)),
bO 17 8 false (.pick (aT 13) (aT 16) (.val (.bool false))),
bM 18 8 false 17,
bM 19 18 true 0,
bO 20 18 true (.bin .gtr (aT 19) (.val (.int .i64 1))),
bO 21 8 false (.pick (aT 18) (aT 20) (.val (.bool false))),
bM 22 8 false 21,
bM 23 22 true 1,
bO 24 22 true (.bin .gtr (aT 23) (.val (.int .i64 1))),
bO 25 8 false (.pick (aT 22) (aT 24) (.val (.bool false))),
bM 26 8 false 25,
bM 27 26 false 0,
bM 28 26 false 1,
bO 29 26 false (.bin .add (aT 27) (aT 28)),
bO 30 26 false (.bin .eql (aT 29) (.val (.int .i64 8))),
bM 31 26 false 30,
bM 32 31 true 0,
bM 33 31 true 1,
bO 34 31 true (.bin .neq (aT 32) (aT 33)),
bO 35 26 false (.pick (aT 31) (aT 34) (.val (.bool false))),
bO 36 8 false (.pick (aT 26) (.val (.bool true)) (aT 35)),
bO 37 8 false (.un .not (aT 36)),
aO 38 (.pick (aT 8) (.val (.bool true)) (aT 37)),
aM 4 38] [] [4])
(.ret))⟩
theorem pf117_ok : fnOk Tryz.prog 117 pf117 = true := by kernel_rfl

/-- slices.Clone[[]int,int] -/
def pf119 : PFn := ⟨8, 1, [.tmp 2], .seq
(.reg [aO 2 (.mv (.val (.list .nil 1 [])))] [] [0])
(.seq
(.seq
(.reg [aM 3 0,
aO 4 (.eqn false (aT 3) (.val (.list .nil 1 [])))] [] [0, 4])
(.cond (aT 4)
(.seq
(.reg [aO 2 (.mv (.val (.list .nil 1 [])))] [] [2])
(.ret))
(.skip)))
(.seq
(.reg [aO 5 (.bsl 0 1 [(.int .i64 0)] []),
aM 6 0,
aO 7 (.app 3 1 8 (aT 5) (aT 6)),
aM 2 7] [] [2])
(.ret)))⟩
theorem pf119_ok : fnOk Tryz.prog 119 pf119 = true := by kernel_rfl

/-- slices.Clone[[]bool,bool] -/
def pf120 : PFn := ⟨8, 1, [.tmp 2], .seq
(.reg [aO 2 (.mv (.val (.list .nil 1 [])))] [] [0])
(.seq
(.seq
(.reg [aM 3 0,
aO 4 (.eqn false (aT 3) (.val (.list .nil 1 [])))] [] [0, 4])
(.cond (aT 4)
(.seq
(.reg [aO 2 (.mv (.val (.list .nil 1 [])))] [] [2])
(.ret))
(.skip)))
(.seq
(.reg [aO 5 (.bsl 0 1 [(.bool false)] []),
aM 6 0,
aO 7 (.app 4 1 1 (aT 5) (aT 6)),
aM 2 7] [] [2])
(.ret)))⟩
theorem pf120_ok : fnOk Tryz.prog 120 pf120 = true := by kernel_rfl

/-- slices.Clone[[]hinterland/api.Signal,hinterland/api.Signal] -/
def pf121 : PFn := ⟨8, 1, [.tmp 2], .seq
(.reg [aO 2 (.mv (.val (.list .nil 4 [])))] [] [0])
(.seq
(.seq
(.reg [aM 3 0,
aO 4 (.eqn false (aT 3) (.val (.list .nil 1 [])))] [] [0, 4])
(.cond (aT 4)
(.seq
(.reg [aO 2 (.mv (.val (.list .nil 4 [])))] [] [2])
(.ret))
(.skip)))
(.seq
(.reg [aO 5 (.bsl 0 4 [(.int .i64 0), (.int .i64 0), (.int .i64 0), (.int .i64 0)] []),
aM 6 0,
aO 7 (.app 75 4 32 (aT 5) (aT 6)),
aM 2 7] [] [2])
(.ret)))⟩
theorem pf121_ok : fnOk Tryz.prog 121 pf121 = true := by kernel_rfl

/-- slices.Clone[[]hinterland/api.Joint,hinterland/api.Joint] -/
def pf122 : PFn := ⟨8, 1, [.tmp 2], .seq
(.reg [aO 2 (.mv (.val (.list .nil 6 [])))] [] [0])
(.seq
(.seq
(.reg [aM 3 0,
aO 4 (.eqn false (aT 3) (.val (.list .nil 1 [])))] [] [0, 4])
(.cond (aT 4)
(.seq
(.reg [aO 2 (.mv (.val (.list .nil 6 [])))] [] [2])
(.ret))
(.skip)))
(.seq
(.reg [aO 5 (.bsl 0 6 [(.int .i64 0), (.int .i64 0), (.int .i64 0), (.int .i64 0), (.int .i64 0), (.int .i64 0)] []),
aM 6 0,
aO 7 (.app 78 6 48 (aT 5) (aT 6)),
aM 2 7] [] [2])
(.ret)))⟩
theorem pf122_ok : fnOk Tryz.prog 122 pf122 = true := by kernel_rfl

/-- slices.Clone[[]hinterland/api.Train,hinterland/api.Train] -/
def pf123 : PFn := ⟨8, 1, [.tmp 2], .seq
(.reg [aO 2 (.mv (.val (.list .nil 5 [])))] [] [0])
(.seq
(.seq
(.reg [aM 3 0,
aO 4 (.eqn false (aT 3) (.val (.list .nil 1 [])))] [] [0, 4])
(.cond (aT 4)
(.seq
(.reg [aO 2 (.mv (.val (.list .nil 5 [])))] [] [2])
(.ret))
(.skip)))
(.seq
(.reg [aO 5 (.bsl 0 5 [(.int .i64 0), (.int .i64 0), (.int .i64 0), (.list .nil 3 []), (.list .nil 3 [])] []),
aM 6 0,
aO 7 (.app 68 5 72 (aT 5) (aT 6)),
aM 2 7] [] [2])
(.ret)))⟩
theorem pf123_ok : fnOk Tryz.prog 123 pf123 = true := by kernel_rfl

/-- hinterland/train.own -/
def pf124 : PFn := ⟨26, 3, [.tmp 6], .seq
(.reg [aO 3 (.boxp 68 (aT 0)),
aO 4 (.boxp 54 (aT 1)),
aO 6 (.mv (.val (.bool false)))] [] [2, 3, 4])
(.seq
(.reg [aO 8 (.mkf (.func 153) [] [(aT 4)]),
aM 7 8] [] [2, 3, 7])
(.seq
(.reg [aF 9 3 3,
aL 10 9,
aF 11 3 3,
aL 12 11,
aO 13 (.len (aT 12)),
aF 14 0 3,
aL 15 14,
aO 16 (.bin .sub (aT 15) (.val (.int .i64 1))),
aO 17 (.mn (aT 13) [(aT 16)]),
aO 18 (.slc 3 (aT 10) none (some (aT 17)) none),
aM 19 7,
aO 20 (.call 70 .pure [(aT 18), (aT 19)]),
aM 21 20,
bM 22 21 false 2,
bM 23 21 false 7,
bO 24 21 false (.call 70 .pure [(aT 22), (aT 23)]),
aO 25 (.pick (aT 21) (.val (.bool true)) (aT 24)),
aM 6 25] [] [6])
(.ret)))⟩
theorem pf124_ok : fnOk Tryz.prog 124 pf124 = true := by kernel_rfl

/-- (hinterland/train.search).enters -/
def pf125 : PFn := ⟨140, 3, [.tmp 6, .tmp 7], .seq
(.reg [aO 3 (.boxp 117 (aT 0)),
aO 5 (.boxp 54 (aT 2)),
aO 6 (.mv (.val (.list .nil 3 []))),
aO 7 (.mv (.val (.bool false)))] [] [1, 3, 5])
(.seq
(.reg [aF 20 0 3,
aF 21 0 20,
aN 22 7 21,
aO 8 (.zer 30 (.agg [(.int .i64 0), (.int .i64 0), (.list .nil 1 []), (.list .nil 1 []), (.list .nil 4 []), (.list .nil 6 []), (.list .nil 5 [])])),
aZ (.st 7 (aT 8) (aT 22))] [] [1, 3, 5, 8])
(.seq
(.reg [aF 23 6 8,
aL 24 23,
aM 25 1,
aI 26 5 24 25,
aF 27 3 26,
aL 28 27,
aO 29 (.iaS 3 (aT 28) (.val (.int .i64 0))),
aN 30 3 29,
aO 9 (.zer 54 (.agg [(.int .i64 0), (.int .i64 0), (.int .i64 0)])),
aZ (.st 3 (aT 9) (aT 30))] [] [1, 3, 5, 8, 9])
(.seq
(.reg [aN 31 7 8,
aO 32 (.call 97 .pure [(aT 31)]),
aM 10 32] [] [1, 3, 5, 8, 9, 10])
(.seq
(.reg [aF 33 0 3,
aN 34 9 33,
aM 35 1,
aM 36 10,
aO 37 (.call 98 .pure [(aT 34), (aT 35), (aT 36)]),
aM 11 37] [] [1, 3, 5, 8, 9, 10, 11])
(.seq
(.reg [aF 39 0 3,
aF 40 7 39,
aL 41 40,
aN 42 3 9,
aO 43 (.mlk (some 3) (.int .i64 0) true (aT 41) (aT 42)),
aM 38 43,
aO 44 (.ext 0 (aT 38)),
aO 45 (.ext 1 (aT 38)),
aM 12 44,
aM 13 45] [] [1, 3, 5, 8, 9, 10, 11, 12, 13])
(.seq
(.blk 0 (.seq
(.reg [aM 47 13,
aO 48 (.un .not (aT 47)),
aM 46 48] [] [1, 3, 5, 8, 9, 10, 11, 12, 46])
(.cond (aT 46)
(.seq
(.reg [aM 49 10,
aF 50 0 9,
aL 51 50,
aF 52 1 9,
aL 53 52,
aO 54 (.bld [(.int .i64 0), (.int .i64 0)] [(0, 1, (aT 51)), (1, 1, (aT 53))]),
aO 55 (.mlk (some 2) (.int .i64 0) false (aT 49) (aT 54)),
aM 56 10,
aF 57 0 5,
aL 58 57,
aF 59 1 5,
aL 60 59,
aO 61 (.bld [(.int .i64 0), (.int .i64 0)] [(0, 1, (aT 58)), (1, 1, (aT 60))]),
aO 62 (.mlk (some 2) (.int .i64 0) false (aT 56) (aT 61)),
aM 14 55,
aM 15 62] [] [3, 5, 11, 14, 15])
(.seq
(.reg [aF 63 9 3,
aL 64 63,
aN 65 3 5,
aO 66 (.call 72 .pure [(aT 64), (aT 65)]),
aO 67 (.un .not (aT 66)),
aM 68 67,
bM 69 68 true 14,
bM 70 68 true 15,
bO 71 68 true (.bin .eql (aT 69) (aT 70)),
bM 72 68 true 71,
bM 73 72 false 11,
bM 74 72 false 15,
bO 75 72 false (.call 79 .pure [(aT 73), (aT 74)]),
bO 76 72 false (.un .not (aT 75)),
bO 77 68 true (.pick (aT 72) (.val (.bool true)) (aT 76)),
aO 78 (.pick (aT 68) (aT 77) (.val (.bool false))),
aO 6 (.mv (.val (.list .nil 3 []))),
aM 7 78] [] [6, 7])
(.ret)))
(.seq
(.reg [aM 80 12,
aO 81 (.bin .geq (aT 80) (.val (.int .i64 4))),
aM 79 81] [] [1, 3, 5, 8, 9, 11, 79])
(.cond (aT 79)
(.seq
(.reg [aN 82 12 3,
aF 83 6 8,
aL 84 83,
aM 85 1,
aI 86 5 84 85,
aN 87 5 86,
aN 88 3 5,
aO 89 (.call 95 .pure [(aT 82), (aT 87), (aT 88)]),
aO 90 (.ext 0 (aT 89)),
aO 91 (.ext 1 (aT 89)),
aM 6 90,
aM 7 91] [] [6, 7])
(.ret))
(.skip))))))
(.seq
(.reg [aF 93 0 8,
aN 94 4 93,
aF 95 4 8,
aL 96 95,
aM 97 11,
aO 98 (.call 154 .pure [(aT 94), (aT 96), (aT 97)]),
aM 92 98,
aO 99 (.ext 0 (aT 92)),
aO 100 (.ext 1 (aT 92)),
aM 16 99,
aM 17 100] [] [3, 5, 8, 9, 16])
(.seq
(.seq
(.reg [aF 101 4 8,
aL 102 101,
aO 103 (.len (aT 102)),
aO 104 (.mv (.val (.int .i64 0)))] [] [3, 5, 9, 16, 102, 103, 104])
(.blk 1 (.loop (.trim (.seq
(.reg [aO 105 (.bin .lss (aT 104) (aT 103))] [] [3, 5, 9, 16, 102, 103, 104, 105])
(.seq
(.cond (aT 105)
(.skip)
(.ext 1))
(.seq
(.blk 2 (.seq
(.reg [aM 106 104,
aI 107 4 102 104,
aN 108 4 107,
aO 19 (.zer 75 (.agg [(.int .i64 0), (.int .i64 0), (.int .i64 0), (.int .i64 0)])),
aM 18 106,
aZ (.st 4 (aT 19) (aT 108))] [] [3, 5, 9, 16, 18, 19, 102, 103, 104])
(.seq
(.reg [aF 109 0 19,
aL 110 109,
aF 111 0 9,
aL 112 111,
aO 113 (.bin .eql (aT 110) (aT 112)),
aM 114 113,
bF 115 114 true 1 19,
bL 116 114 true 115,
bF 117 114 true 1 9,
bL 118 114 true 117,
bO 119 114 true (.bin .eql (aT 116) (aT 118)),
aO 120 (.pick (aT 114) (aT 119) (.val (.bool false))),
aM 121 120,
bF 122 121 true 2 19,
bL 123 121 true 122,
bF 124 121 true 2 9,
bL 125 121 true 124,
bO 126 121 true (.bin .eql (aT 123) (aT 125)),
aO 127 (.pick (aT 121) (aT 126) (.val (.bool false)))] [] [3, 5, 9, 16, 18, 102, 103, 104, 127])
(.cond (aT 127)
(.seq
(.reg [aM 128 16,
aM 129 18,
aI 130 1 128 129,
aL 131 130,
aM 132 131,
bF 133 132 true 9 3,
bL 134 132 true 133,
bN 135 132 true 3 5,
bO 136 132 true (.call 72 .pure [(aT 134), (aT 135)]),
bO 137 132 true (.un .not (aT 136)),
aO 138 (.pick (aT 132) (aT 137) (.val (.bool false))),
aO 6 (.mv (.val (.list .nil 3 []))),
aM 7 138] [] [6, 7])
(.ret))
(.skip)))))
(.reg [aO 139 (.bin .add (aT 104) (.val (.int .i64 1))),
aM 104 139] [] [3, 5, 9, 16, 102, 103, 104]))))))))
(.seq
(.reg [aO 6 (.mv (.val (.list .nil 3 []))),
aO 7 (.mv (.val (.bool false)))] [] [6, 7])
(.ret))))))))))⟩
theorem pf125_ok : fnOk Tryz.prog 125 pf125 = true := by kernel_rfl

/-- slices.Index[[]int,int] -/
def pf126 : PFn := ⟨19, 2, [.tmp 4], .seq
(.reg [aO 4 (.mv (.val (.int .i64 0)))] [] [0, 1])
(.seq
(.seq
(.reg [aM 6 0,
aO 7 (.len (aT 6)),
aO 8 (.mv (.val (.int .i64 0)))] [] [0, 1, 7, 8])
(.blk 0 (.loop (.seq
(.reg [aO 9 (.bin .lss (aT 8) (aT 7))] [] [0, 1, 7, 8, 9])
(.seq
(.cond (aT 9)
(.skip)
(.ext 0))
(.seq
(.blk 1 (.seq
(.reg [aM 10 8,
aM 5 10] [] [0, 1, 5, 7, 8])
(.seq
(.reg [aM 11 1,
aM 12 0,
aM 13 5,
aI 14 1 12 13,
aL 15 14,
aO 16 (.bin .eql (aT 11) (aT 15))] [] [0, 1, 5, 7, 8, 16])
(.cond (aT 16)
(.seq
(.reg [aM 17 5,
aM 4 17] [] [4])
(.ret))
(.skip)))))
(.reg [aO 18 (.bin .add (aT 8) (.val (.int .i64 1))),
aM 8 18] [] [0, 1, 7, 8])))))))
(.seq
(.reg [aO 4 (.mv (.val (.int .i64 (-1))))] [] [4])
(.ret)))⟩
theorem pf126_ok : fnOk Tryz.prog 126 pf126 = true := by kernel_rfl

/-- (hinterland/train.search).spread -/
def pf129 : PFn := ⟨117, 3, [], .seq
(.reg [aO 3 (.boxm 117 (aT 0))] [] [1, 2, 3])
(.seq
(.reg [aO 16 (.mkm (some 3)),
aM 6 16] [] [1, 2, 3, 6])
(.blk 0 (.loop (.trim (.seq
(.seq
(.reg [aM 17 2,
aO 18 (.len (aT 17)),
aO 19 (.bin .gtr (aT 18) (.val (.int .i64 0)))] [] [1, 2, 3, 6, 19])
(.cond (aT 19)
(.skip)
(.ext 0)))
(.blk 1 (.seq
(.reg [aO 7 (.mv (.val (.int .i64 0)))] [] [1, 2, 3, 6, 7])
(.seq
(.seq
(.reg [aM 20 2,
aO 21 (.len (aT 20)),
aO 22 (.mv (.val (.int .i64 0)))] [] [1, 2, 3, 6, 7, 20, 21, 22])
(.blk 2 (.loop (.trim (.seq
(.reg [aO 23 (.bin .lss (aT 22) (aT 21))] [] [1, 2, 3, 6, 7, 20, 21, 22, 23])
(.seq
(.cond (aT 23)
(.skip)
(.ext 2))
(.seq
(.blk 3 (.seq
(.reg [aM 24 22,
aI 25 3 20 22,
aN 26 3 25,
aO 9 (.zer 54 (.agg [(.int .i64 0), (.int .i64 0), (.int .i64 0)])),
aM 8 24,
aZ (.st 3 (aT 9) (aT 26))] [] [1, 2, 3, 6, 7, 8, 9, 20, 21, 22])
(.seq
(.reg [aF 27 11 3,
aL 28 27,
aN 29 3 9,
aO 30 (.mlk (some 3) (.agg [(.int .i64 0), (.int .i64 0)]) false (aT 28) (aT 29)),
aF 31 11 3,
aL 32 31,
aM 33 2,
aM 34 7,
aI 35 3 33 34,
aN 36 3 35,
aO 37 (.mlk (some 3) (.agg [(.int .i64 0), (.int .i64 0)]) false (aT 32) (aT 36)),
aO 38 (.call 131 .pure [(aT 30), (aT 37)])] [] [1, 2, 3, 6, 7, 8, 20, 21, 22, 38])
(.cond (aT 38)
(.reg [aM 39 8,
aM 7 39] [] [1, 2, 3, 6, 7, 20, 21, 22])
(.skip)))))
(.reg [aO 40 (.bin .add (aT 22) (.val (.int .i64 1))),
aM 22 40] [] [1, 2, 3, 6, 7, 20, 21, 22]))))))))
(.seq
(.reg [aM 41 2,
aM 42 7,
aI 43 3 41 42,
aN 44 3 43,
aO 10 (.zer 54 (.agg [(.int .i64 0), (.int .i64 0), (.int .i64 0)])),
aZ (.st 3 (aT 10) (aT 44))] [] [1, 2, 3, 6, 7, 10])
(.seq
(.reg [aM 45 2,
aM 46 7,
aM 47 2,
aM 48 2,
aO 49 (.len (aT 48)),
aO 50 (.bin .sub (aT 49) (.val (.int .i64 1))),
aI 51 3 47 50,
aN 52 3 51,
aI 53 3 45 46,
aZ (.st 3 (aT 53) (aT 52))] [] [1, 2, 3, 6, 10])
(.seq
(.reg [aM 54 2,
aM 55 2,
aO 56 (.len (aT 55)),
aO 57 (.bin .sub (aT 56) (.val (.int .i64 1))),
aO 58 (.slc 3 (aT 54) none (some (aT 57)) none),
aM 2 58] [] [1, 2, 3, 6, 10])
(.seq
(.seq
(.reg [aM 59 6,
aN 60 3 10,
aO 61 (.mlk (some 3) (.bool false) false (aT 59) (aT 60))] [] [1, 2, 3, 6, 10, 61])
(.cond (aT 61)
(.ext 1)
(.skip)))
(.seq
(.reg [aM 62 6,
aN 63 3 10,
aZ (.mup (some 3) (aT 62) (aT 63) (.val (.bool true)))] [] [1, 2, 3, 6, 10])
(.seq
(.reg [aF 64 11 3,
aL 65 64,
aN 66 3 10,
aO 67 (.mlk (some 3) (.agg [(.int .i64 0), (.int .i64 0)]) false (aT 65) (aT 66)),
aO 68 (.fld none 0 (aT 67)),
aN 69 12 3,
aN 70 3 10,
aO 71 (.call 130 .pure [(aT 69), (aT 70)]),
aO 72 (.bin .add (aT 68) (aT 71)),
aF 73 11 3,
aL 74 73,
aN 75 3 10,
aO 76 (.mlk (some 3) (.agg [(.int .i64 0), (.int .i64 0)]) false (aT 74) (aT 75)),
aO 77 (.fld none 1 (aT 76)),
aO 78 (.bin .add (aT 77) (.val (.int .i64 1))),
aO 79 (.bld [(.int .i64 0), (.int .i64 0)] [(0, 1, (aT 72)), (1, 1, (aT 78))]),
aO 11 (.zer 162 (.agg [(.int .i64 0), (.int .i64 0)])),
aZ (.st 2 (aT 11) (aT 79))] [(1, 16), (1, 17), (2, 16), (2, 17), (3, 16), (3, 17), (5, 16), (5, 17), (6, 16), (6, 17), (7, 16), (7, 17), (10, 16), (10, 17), (11, 16), (11, 17), (12, 16), (12, 17)] [1, 2, 3, 6, 10, 11])
(.seq
(.reg [aM 80 1,
aN 81 3 10,
aO 82 (.mlk (some 3) (.list .nil 3 []) false (aT 80) (aT 81)),
aO 83 (.len (aT 82)),
aO 84 (.mv (.val (.int .i64 0)))] [] [1, 2, 3, 6, 11, 82, 83, 84])
(.blk 4 (.loop (.trim (.seq
(.reg [aO 85 (.bin .lss (aT 84) (aT 83))] [] [1, 2, 3, 6, 11, 82, 83, 84, 85])
(.seq
(.cond (aT 85)
(.skip)
(.ext 4))
(.seq
(.blk 5 (.seq
(.reg [aI 86 3 82 84,
aN 87 3 86,
aO 13 (.zer 54 (.agg [(.int .i64 0), (.int .i64 0), (.int .i64 0)])),
aZ (.st 3 (aT 13) (aT 87))] [] [1, 2, 3, 6, 11, 13, 82, 83, 84])
(.seq
(.reg [aF 89 11 3,
aL 90 89,
aN 91 3 13,
aO 92 (.mlk (some 3) (.agg [(.int .i64 0), (.int .i64 0)]) true (aT 90) (aT 91)),
aM 88 92,
aO 93 (.ext 0 (aT 88)),
aO 94 (.ext 1 (aT 88)),
aO 14 (.zer 162 (.agg [(.int .i64 0), (.int .i64 0)])),
aZ (.st 2 (aT 14) (aT 93)),
aM 15 94] [] [1, 2, 3, 6, 11, 13, 14, 15, 82, 83, 84])
(.seq
(.reg [aM 95 6,
aN 96 3 13,
aO 97 (.mlk (some 3) (.bool false) false (aT 95) (aT 96)),
aO 98 (.un .not (aT 97)),
aM 99 98,
bM 100 99 true 15,
bO 101 99 true (.un .not (aT 100)),
bM 102 99 true 101,
bN 103 102 false 2 11,
bN 104 102 false 2 14,
bO 105 102 false (.call 131 .pure [(aT 103), (aT 104)]),
bO 106 99 true (.pick (aT 102) (.val (.bool true)) (aT 105)),
aO 107 (.pick (aT 99) (aT 106) (.val (.bool false)))] [] [1, 2, 3, 6, 11, 13, 82, 83, 84, 107])
(.cond (aT 107)
(.seq
(.reg [aF 108 11 3,
aL 109 108,
aN 110 3 13,
aN 111 2 11,
aZ (.mup (some 3) (aT 109) (aT 110) (aT 111))] [] [1, 2, 3, 6, 11, 13, 82, 83, 84])
(.reg [aM 112 2,
aN 113 3 13,
aO 114 (.bsl 1 3 [(.int .i64 0), (.int .i64 0), (.int .i64 0)] [(0, 3, (aT 113))]),
aO 115 (.app 54 3 24 (aT 112) (aT 114)),
aM 2 115] [] [1, 2, 3, 6, 11, 82, 83, 84]))
(.skip))))))
(.reg [aO 116 (.bin .add (aT 84) (.val (.int .i64 1))),
aM 84 116] [] [1, 2, 3, 6, 11, 82, 83, 84]))))))))))))))))))))))⟩
theorem pf129_ok : fnOk Tryz.prog 129 pf129 = true := by kernel_rfl

/-- (hinterland/train.search).price -/
def pf130 : PFn := ⟨9, 2, [.tmp 4], .seq
(.reg [aO 2 (.boxp 117 (aT 0)),
aO 3 (.boxp 54 (aT 1)),
aO 4 (.mv (.val (.int .i64 0)))] [] [2, 3])
(.seq
(.seq
(.reg [aF 5 9 2,
aL 6 5,
aN 7 3 3,
aO 8 (.call 72 .pure [(aT 6), (aT 7)])] [] [8])
(.cond (aT 8)
(.seq
(.reg [aO 4 (.mv (.val (.int .i64 101)))] [] [4])
(.ret))
(.skip)))
(.seq
(.reg [aO 4 (.mv (.val (.int .i64 1)))] [] [4])
(.ret)))⟩
theorem pf130_ok : fnOk Tryz.prog 130 pf130 = true := by kernel_rfl

/-- (hinterland/train.far).less -/
def pf131 : PFn := ⟨24, 2, [.tmp 4], .seq
(.reg [aO 2 (.boxp 162 (aT 0)),
aO 3 (.boxp 162 (aT 1)),
aO 4 (.mv (.val (.bool false)))] [] [2, 3])
(.seq
(.reg [aF 5 0 2,
aL 6 5,
aF 7 0 3,
aL 8 7,
aO 9 (.bin .lss (aT 6) (aT 8)),
aM 10 9,
bF 11 10 false 0 2,
bL 12 10 false 11,
bF 13 10 false 0 3,
bL 14 10 false 13,
bO 15 10 false (.bin .eql (aT 12) (aT 14)),
bM 16 10 false 15,
bF 17 16 true 1 2,
bL 18 16 true 17,
bF 19 16 true 1 3,
bL 20 16 true 19,
bO 21 16 true (.bin .lss (aT 18) (aT 20)),
bO 22 10 false (.pick (aT 16) (aT 21) (.val (.bool false))),
aO 23 (.pick (aT 10) (.val (.bool true)) (aT 22)),
aM 4 23] [] [4])
(.ret))⟩
theorem pf131_ok : fnOk Tryz.prog 131 pf131 = true := by kernel_rfl

/-- (hinterland/train.field).holder_1 -/
def pf132 : PFn := ⟨16, 2, [.tmp 3], .seq
(.reg [aO 2 (.boxp 54 (aT 0)),
aO 3 (.mv (.val (.bool false)))] [] [1, 2])
(.seq
(.reg [aF 4 0 2,
aL 5 4,
aF 6 0 1,
aL 7 6,
aO 8 (.bin .eql (aT 5) (aT 7)),
aM 9 8,
bF 10 9 true 1 2,
bL 11 9 true 10,
bF 12 9 true 1 1,
bL 13 9 true 12,
bO 14 9 true (.call 117 .pure [(aT 11), (aT 13)]),
aO 15 (.pick (aT 9) (aT 14) (.val (.bool false))),
aM 3 15] [] [3])
(.ret))⟩
theorem pf132_ok : fnOk Tryz.prog 132 pf132 = true := by kernel_rfl

/-- hinterland/rail.all -/
def pf134 : PFn := ⟨27, 2, [.tmp 4], .seq
(.reg [aO 2 (.boxp 25 (aT 0)),
aO 4 (.mv (.val (.int .i64 0)))] [] [1, 2])
(.seq
(.seq
(.reg [aN 9 4 2,
aO 10 (.call 104 .pure [(aT 9)]),
aM 5 10] [] [1, 2, 5])
(.seq
(.reg [aM 11 5,
aO 12 (.bin .neq (aT 11) (.val (.int .i64 0)))] [] [1, 2, 5, 12])
(.cond (aT 12)
(.seq
(.reg [aM 13 5,
aM 4 13] [] [4])
(.ret))
(.skip))))
(.seq
(.seq
(.reg [aM 14 1,
aO 15 (.len (aT 14)),
aO 16 (.mv (.val (.int .i64 0)))] [] [2, 14, 15, 16])
(.blk 0 (.loop (.trim (.seq
(.reg [aO 17 (.bin .lss (aT 16) (aT 15))] [] [2, 14, 15, 16, 17])
(.seq
(.cond (aT 17)
(.skip)
(.ext 0))
(.seq
(.blk 1 (.seq
(.reg [aI 18 3 14 16,
aN 19 3 18,
aO 7 (.zer 54 (.agg [(.int .i64 0), (.int .i64 0), (.int .i64 0)])),
aZ (.st 3 (aT 7) (aT 19))] [] [2, 7, 14, 15, 16])
(.seq
(.reg [aN 20 4 2,
aN 21 3 7,
aO 22 (.call 156 .pure [(aT 20), (aT 21)]),
aM 8 22] [] [2, 8, 14, 15, 16])
(.seq
(.reg [aM 23 8,
aO 24 (.bin .neq (aT 23) (.val (.int .i64 0)))] [] [2, 8, 14, 15, 16, 24])
(.cond (aT 24)
(.seq
(.reg [aM 25 8,
aM 4 25] [] [4])
(.ret))
(.skip))))))
(.reg [aO 26 (.bin .add (aT 16) (.val (.int .i64 1))),
aM 16 26] [] [2, 14, 15, 16]))))))))
(.seq
(.reg [aO 4 (.mv (.val (.int .i64 0)))] [] [4])
(.ret))))⟩
theorem pf134_ok : fnOk Tryz.prog 134 pf134 = true := by kernel_rfl

/-- hinterland/rail.next -/
def pf135 : PFn := ⟨56, 2, [.tmp 4], .seq
(.reg [aO 2 (.boxp 25 (aT 0)),
aO 3 (.boxp 54 (aT 1)),
aO 4 (.mv (.val (.list .nil 3 [])))] [] [2, 3])
(.seq
(.reg [aF 12 0 2,
aL 13 12,
aF 14 1 2,
aL 15 14,
aF 16 0 3,
aL 17 16,
aF 18 2 3,
aL 19 18,
aO 20 (.call 157 .pure [(aT 13), (aT 15), (aT 17), (aT 19)]),
aM 11 20,
aO 21 (.ext 0 (aT 11)),
aO 22 (.ext 1 (aT 11)),
aM 5 21,
aM 6 22] [] [2, 3, 5, 6])
(.seq
(.seq
(.reg [aM 23 6,
aO 24 (.un .not (aT 23))] [] [2, 3, 5, 24])
(.cond (aT 24)
(.seq
(.reg [aO 4 (.mv (.val (.list .nil 3 [])))] [] [4])
(.ret))
(.skip)))
(.seq
(.reg [aO 7 (.nacc 54 3)] [] [2, 3, 5, 7])
(.seq
(.seq
(.reg [aO 25 (.mv (.val (.int .i64 0)))] [] [2, 3, 5, 7, 25])
(.blk 0 (.loop (.seq
(.reg [aO 26 (.bin .lss (aT 25) (.val (.int .i64 6)))] [] [2, 3, 5, 7, 25, 26])
(.seq
(.cond (aT 26)
(.skip)
(.ext 0))
(.seq
(.blk 1 (.seq
(.reg [aM 27 25,
aM 8 27] [] [2, 3, 5, 7, 8, 25])
(.seq
(.seq
(.reg [aF 28 2 2,
aL 29 28,
aM 30 5,
aI 31 1 29 30,
aL 32 31,
aM 33 8,
aO 34 (.bin .shr (aT 32) (aT 33)),
aO 35 (.bin .and (aT 34) (.val (.int .i64 1))),
aO 36 (.bin .eql (aT 35) (.val (.int .i64 0)))] [] [2, 3, 5, 7, 8, 25, 36])
(.cond (aT 36)
(.ext 1)
(.skip)))
(.seq
(.reg [aM 38 8,
aF 39 2 3,
aL 40 39,
aO 41 (.bin .add (aT 40) (.val (.int .i64 2))),
aO 42 (.bin .rem (aT 41) (.val (.int .i64 4))),
aO 43 (.call 158 .pure [(aT 38), (aT 42)]),
aM 37 43,
aO 44 (.ext 0 (aT 37)),
aO 45 (.ext 1 (aT 37)),
aM 9 44,
aM 10 45] [] [2, 3, 5, 7, 8, 9, 10, 25])
(.seq
(.reg [aM 46 10] [] [2, 3, 5, 7, 8, 9, 25, 46])
(.cond (aT 46)
(.reg [aM 47 7,
aM 48 5,
aM 49 8,
aM 50 9,
aO 51 (.bld [(.int .i64 0), (.int .i64 0), (.int .i64 0)] [(0, 1, (aT 48)), (1, 1, (aT 49)), (2, 1, (aT 50))]),
aO 52 (.bsl 1 3 [(.int .i64 0), (.int .i64 0), (.int .i64 0)] [(0, 3, (aT 51))]),
aO 53 (.app 54 3 24 (aT 47) (aT 52)),
aM 7 53] [] [2, 3, 5, 7, 25])
(.skip)))))))
(.reg [aO 54 (.bin .add (aT 25) (.val (.int .i64 1))),
aM 25 54] [] [2, 3, 5, 7, 25])))))))
(.seq
(.reg [aM 55 7,
aM 4 55] [] [4])
(.ret))))))⟩
theorem pf135_ok : fnOk Tryz.prog 135 pf135 = true := by kernel_rfl

/-- (hinterland/train.field).next -/
def pf136 : PFn := ⟨111, 2, [.tmp 4], .seq
(.reg [aO 2 (.boxp 90 (aT 0)),
aO 3 (.boxp 54 (aT 1)),
aO 4 (.mv (.val (.list .nil 3 [])))] [] [2, 3])
(.seq
(.reg [aF 14 0 2,
aF 15 0 14,
aN 16 4 15,
aO 5 (.zer 25 (.agg [(.int .i64 0), (.int .i64 0), (.list .nil 1 []), (.list .nil 1 [])])),
aZ (.st 4 (aT 5) (aT 16))] [] [3, 5])
(.seq
(.reg [aF 17 0 3,
aL 18 17,
aF 19 0 5,
aL 20 19,
aO 21 (.bin .rem (aT 18) (aT 20)),
aF 22 0 3,
aL 23 22,
aF 24 0 5,
aL 25 24,
aO 26 (.bin .quo (aT 23) (aT 25)),
aM 6 21,
aM 7 26] [] [3, 5, 6, 7])
(.seq
(.seq
(.reg [aF 27 2 3,
aL 28 27] [] [3, 5, 6, 7, 28])
(.blk 0 (.seq
(.reg [aO 32 (.bin .eql (aT 28) (.val (.int .i64 0))),
aM 31 32] [] [3, 5, 6, 7, 28, 31])
(.cond (aT 31)
(.reg [aM 33 6,
aO 34 (.bin .add (aT 33) (.val (.int .i64 1))),
aM 6 34] [] [3, 5, 6, 7])
(.seq
(.reg [aO 36 (.bin .eql (aT 28) (.val (.int .i64 1))),
aM 35 36] [] [3, 5, 6, 7, 28, 35])
(.cond (aT 35)
(.reg [aM 37 7,
aO 38 (.bin .add (aT 37) (.val (.int .i64 1))),
aM 7 38] [] [3, 5, 6, 7])
(.seq
(.reg [aO 40 (.bin .eql (aT 28) (.val (.int .i64 2))),
aM 39 40] [] [3, 5, 6, 7, 39])
(.cond (aT 39)
(.reg [aM 41 6,
aO 42 (.bin .sub (aT 41) (.val (.int .i64 1))),
aM 6 42] [] [3, 5, 6, 7])
(.reg [aM 29 7,
aO 30 (.bin .sub (aT 29) (.val (.int .i64 1))),
aM 7 30] [] [3, 5, 6, 7])))))))))
(.seq
(.seq
(.reg [aM 43 6,
aO 44 (.bin .lss (aT 43) (.val (.int .i64 0))),
aM 45 44,
bM 46 45 false 6,
bF 47 45 false 0 5,
bL 48 45 false 47,
bO 49 45 false (.bin .geq (aT 46) (aT 48)),
aO 50 (.pick (aT 45) (.val (.bool true)) (aT 49)),
aM 51 50,
bM 52 51 false 7,
bO 53 51 false (.bin .lss (aT 52) (.val (.int .i64 0))),
aO 54 (.pick (aT 51) (.val (.bool true)) (aT 53)),
aM 55 54,
bM 56 55 false 7,
bF 57 55 false 1 5,
bL 58 55 false 57,
bO 59 55 false (.bin .geq (aT 56) (aT 58)),
aO 60 (.pick (aT 55) (.val (.bool true)) (aT 59))] [] [3, 5, 6, 7, 60])
(.cond (aT 60)
(.seq
(.reg [aO 4 (.mv (.val (.list .nil 3 [])))] [] [4])
(.ret))
(.skip)))
(.seq
(.reg [aM 61 7,
aF 62 0 5,
aL 63 62,
aO 64 (.bin .mul (aT 61) (aT 63)),
aM 65 6,
aO 66 (.bin .add (aT 64) (aT 65)),
aF 67 2 3,
aL 68 67,
aO 69 (.bin .add (aT 68) (.val (.int .i64 2))),
aO 70 (.bin .rem (aT 69) (.val (.int .i64 4))),
aM 8 66,
aM 9 70] [] [5, 8, 9])
(.seq
(.reg [aO 10 (.nacc 54 3)] [] [5, 8, 9, 10])
(.seq
(.seq
(.reg [aO 71 (.mv (.val (.int .i64 0)))] [] [5, 8, 9, 10, 71])
(.blk 1 (.loop (.seq
(.reg [aO 72 (.bin .lss (aT 71) (.val (.int .i64 6)))] [] [5, 8, 9, 10, 71, 72])
(.seq
(.cond (aT 72)
(.skip)
(.ext 1))
(.seq
(.blk 2 (.seq
(.reg [aM 73 71,
aM 11 73] [] [5, 8, 9, 10, 11, 71])
(.seq
(.reg [aF 74 2 5,
aL 75 74,
aM 76 8,
aI 77 1 75 76,
aL 78 77,
aM 79 11,
aO 80 (.bin .shr (aT 78) (aT 79)),
aO 81 (.bin .and (aT 80) (.val (.int .i64 1))),
aO 82 (.bin .eql (aT 81) (.val (.int .i64 1)))] [] [5, 8, 9, 10, 11, 71, 82])
(.cond (aT 82)
(.seq
(.reg [aM 84 11,
aO 85 (.call 102 .pure [(aT 84)]),
aM 83 85,
aO 86 (.ext 0 (aT 83)),
aO 87 (.ext 1 (aT 83)),
aM 12 86,
aM 13 87] [] [5, 8, 9, 10, 11, 12, 13, 71])
(.seq
(.reg [aM 88 9] [] [5, 8, 9, 10, 11, 12, 13, 71, 88])
(.blk 3 (.seq
(.reg [aM 90 12,
aO 91 (.bin .eql (aT 88) (aT 90)),
aM 89 91] [] [5, 8, 9, 10, 11, 12, 13, 71, 88, 89])
(.cond (aT 89)
(.reg [aM 92 10,
aM 93 8,
aM 94 11,
aM 95 13,
aO 96 (.bld [(.int .i64 0), (.int .i64 0), (.int .i64 0)] [(0, 1, (aT 93)), (1, 1, (aT 94)), (2, 1, (aT 95))]),
aO 97 (.bsl 1 3 [(.int .i64 0), (.int .i64 0), (.int .i64 0)] [(0, 3, (aT 96))]),
aO 98 (.app 54 3 24 (aT 92) (aT 97)),
aM 10 98] [] [5, 8, 9, 10, 71])
(.seq
(.reg [aM 100 13,
aO 101 (.bin .eql (aT 88) (aT 100)),
aM 99 101] [] [5, 8, 9, 10, 11, 12, 71, 99])
(.cond (aT 99)
(.reg [aM 102 10,
aM 103 8,
aM 104 11,
aM 105 12,
aO 106 (.bld [(.int .i64 0), (.int .i64 0), (.int .i64 0)] [(0, 1, (aT 103)), (1, 1, (aT 104)), (2, 1, (aT 105))]),
aO 107 (.bsl 1 3 [(.int .i64 0), (.int .i64 0), (.int .i64 0)] [(0, 3, (aT 106))]),
aO 108 (.app 54 3 24 (aT 102) (aT 107)),
aM 10 108] [] [5, 8, 9, 10, 71])
(.skip))))))))
(.skip)))))
(.reg [aO 109 (.bin .add (aT 71) (.val (.int .i64 1))),
aM 71 109] [] [5, 8, 9, 10, 71])))))))
(.seq
(.reg [aM 110 10,
aM 4 110] [] [4])
(.ret)))))))))⟩
theorem pf136_ok : fnOk Tryz.prog 136 pf136 = true := by kernel_rfl

/-- slices.SortFunc[[]hinterland/api.Spot,hinterland/api.Spot] -/
def pf137 : PFn := ⟨14, 2, [], .seq
(.reg [aM 5 0,
aO 6 (.len (aT 5)),
aM 4 6] [] [0, 1, 4])
(.reg [aM 7 0,
aM 8 4,
aM 9 4,
aO 10 (.conv .u64 (aT 9)),
aO 11 (.call 160 .pure [(aT 10)]),
aM 12 1,
aO 13 (.call 159 .opn [(aT 7), (.val (.int .i64 0)), (aT 8), (aT 11), (aT 12)])] [] [])⟩
theorem pf137_ok : fnOk Tryz.prog 137 pf137 = true := by kernel_rfl

/-- slices.Compact[[]hinterland/api.Spot,hinterland/api.Spot] -/
def pf138 : PFn := ⟨61, 1, [.tmp 2], .seq
(.reg [aO 2 (.mv (.val (.list .nil 3 [])))] [] [0])
(.seq
(.seq
(.reg [aM 6 0,
aO 7 (.len (aT 6)),
aO 8 (.bin .lss (aT 7) (.val (.int .i64 2)))] [] [0, 8])
(.cond (aT 8)
(.seq
(.reg [aM 9 0,
aM 2 9] [] [2])
(.ret))
(.skip)))
(.seq
(.seq
(.reg [aO 3 (.mv (.val (.int .i64 1)))] [] [0, 3])
(.blk 0 (.loop (.seq
(.seq
(.reg [aM 10 3,
aM 11 0,
aO 12 (.len (aT 11)),
aO 13 (.bin .lss (aT 10) (aT 12))] [] [0, 3, 13])
(.cond (aT 13)
(.skip)
(.ext 0)))
(.seq
(.blk 1 (.seq
(.reg [aM 16 0,
aM 17 3,
aI 18 3 16 17,
aN 19 3 18,
aM 20 0,
aM 21 3,
aO 22 (.bin .sub (aT 21) (.val (.int .i64 1))),
aI 23 3 20 22,
aN 24 3 23,
aO 25 (.eqs false [true, true, true] (aT 19) (aT 24))] [] [0, 3, 25])
(.cond (aT 25)
(.seq
(.reg [aM 26 0,
aM 27 3,
aO 28 (.slc 3 (aT 26) (some (aT 27)) none none),
aM 4 28] [] [0, 3, 4])
(.seq
(.seq
(.reg [aO 5 (.mv (.val (.int .i64 1)))] [] [0, 3, 4, 5])
(.blk 2 (.loop (.seq
(.seq
(.reg [aM 29 5,
aM 30 4,
aO 31 (.len (aT 30)),
aO 32 (.bin .lss (aT 29) (aT 31))] [] [0, 3, 4, 5, 32])
(.cond (aT 32)
(.skip)
(.ext 2)))
(.seq
(.blk 3 (.seq
(.reg [aM 35 4,
aM 36 5,
aI 37 3 35 36,
aN 38 3 37,
aM 39 4,
aM 40 5,
aO 41 (.bin .sub (aT 40) (.val (.int .i64 1))),
aI 42 3 39 41,
aN 43 3 42,
aO 44 (.eqs true [true, true, true] (aT 38) (aT 43))] [] [0, 3, 4, 5, 44])
(.cond (aT 44)
(.seq
(.reg [aM 45 0,
aM 46 3,
aM 47 4,
aM 48 5,
aI 49 3 47 48,
aN 50 3 49,
aI 51 3 45 46,
aZ (.st 3 (aT 51) (aT 50))] [] [0, 3, 4, 5])
(.reg [aM 52 3,
aO 53 (.bin .add (aT 52) (.val (.int .i64 1))),
aM 3 53] [] [0, 3, 4, 5]))
(.skip))))
(.reg [aM 33 5,
aO 34 (.bin .add (aT 33) (.val (.int .i64 1))),
aM 5 34] [] [0, 3, 4, 5]))))))
(.seq
(.reg [aM 54 0,
aM 55 3,
aO 56 (.slc 3 (aT 54) (some (aT 55)) none none),
aZ (.clr 3 [(.int .i64 0), (.int .i64 0), (.int .i64 0)] (aT 56))] [] [0, 3])
(.seq
(.reg [aM 57 0,
aM 58 3,
aO 59 (.slc 3 (aT 57) none (some (aT 58)) none),
aM 2 59] [] [2])
(.ret)))))
(.skip))))
(.reg [aM 14 3,
aO 15 (.bin .add (aT 14) (.val (.int .i64 1))),
aM 3 15] [] [0, 3]))))))
(.seq
(.reg [aM 60 0,
aM 2 60] [] [2])
(.ret))))⟩
theorem pf138_ok : fnOk Tryz.prog 138 pf138 = true := by kernel_rfl

/-- slices.Index[[]hinterland/api.Spot,hinterland/api.Spot] -/
def pf143 : PFn := ⟨19, 2, [.tmp 4], .seq
(.reg [aO 3 (.boxp 54 (aT 1)),
aO 4 (.mv (.val (.int .i64 0)))] [] [0, 3])
(.seq
(.seq
(.reg [aM 6 0,
aO 7 (.len (aT 6)),
aO 8 (.mv (.val (.int .i64 0)))] [] [0, 3, 7, 8])
(.blk 0 (.loop (.seq
(.reg [aO 9 (.bin .lss (aT 8) (aT 7))] [] [0, 3, 7, 8, 9])
(.seq
(.cond (aT 9)
(.skip)
(.ext 0))
(.seq
(.blk 1 (.seq
(.reg [aM 10 8,
aM 5 10] [] [0, 3, 5, 7, 8])
(.seq
(.reg [aN 11 3 3,
aM 12 0,
aM 13 5,
aI 14 3 12 13,
aN 15 3 14,
aO 16 (.eqs false [true, true, true] (aT 11) (aT 15))] [] [0, 3, 5, 7, 8, 16])
(.cond (aT 16)
(.seq
(.reg [aM 17 5,
aM 4 17] [] [4])
(.ret))
(.skip)))))
(.reg [aO 18 (.bin .add (aT 8) (.val (.int .i64 1))),
aM 8 18] [] [0, 3, 7, 8])))))))
(.seq
(.reg [aO 4 (.mv (.val (.int .i64 (-1))))] [] [4])
(.ret)))⟩
theorem pf143_ok : fnOk Tryz.prog 143 pf143 = true := by kernel_rfl

/-- hinterland/block.Blocks -/
def pf145 : PFn := ⟨17, 2, [.tmp 4, .tmp 5], .seq
(.reg [aO 2 (.boxp 25 (aT 0)),
aO 4 (.mv (.val (.list .nil 2 []))),
aO 5 (.mv (.val (.int .i64 0)))] [] [1, 2])
(.seq
(.seq
(.reg [aN 7 4 2,
aM 8 1,
aO 9 (.call 54 .pure [(aT 7), (aT 8)]),
aM 6 9] [] [1, 2, 6])
(.seq
(.reg [aM 10 6,
aO 11 (.bin .neq (aT 10) (.val (.int .i64 0)))] [] [1, 2, 6, 11])
(.cond (aT 11)
(.seq
(.reg [aM 12 6,
aO 4 (.mv (.val (.list .nil 2 []))),
aM 5 12] [] [4, 5])
(.ret))
(.skip))))
(.seq
(.reg [aN 13 4 2,
aM 14 1,
aO 15 (.call 163 .pure [(aT 13), (aT 14)]),
aO 16 (.call 162 .pure [(aT 15)]),
aM 4 16,
aO 5 (.mv (.val (.int .i64 0)))] [] [4, 5])
(.ret)))⟩
theorem pf145_ok : fnOk Tryz.prog 145 pf145 = true := by kernel_rfl

/-- slices.Sort[[]int,int] -/
def pf146 : PFn := ⟨11, 1, [], .seq
(.reg [aM 3 0,
aO 4 (.len (aT 3)),
aM 2 4] [] [0, 2])
(.reg [aM 5 0,
aM 6 2,
aM 7 2,
aO 8 (.conv .u64 (aT 7)),
aO 9 (.call 160 .pure [(aT 8)]),
aO 10 (.call 164 .opn [(aT 5), (.val (.int .i64 0)), (aT 6), (aT 9)])] [] [])⟩
theorem pf146_ok : fnOk Tryz.prog 146 pf146 = true := by kernel_rfl

/-- slices.Compact[[]int,int] -/
def pf147 : PFn := ⟨61, 1, [.tmp 2], .seq
(.reg [aO 2 (.mv (.val (.list .nil 1 [])))] [] [0])
(.seq
(.seq
(.reg [aM 6 0,
aO 7 (.len (aT 6)),
aO 8 (.bin .lss (aT 7) (.val (.int .i64 2)))] [] [0, 8])
(.cond (aT 8)
(.seq
(.reg [aM 9 0,
aM 2 9] [] [2])
(.ret))
(.skip)))
(.seq
(.seq
(.reg [aO 3 (.mv (.val (.int .i64 1)))] [] [0, 3])
(.blk 0 (.loop (.seq
(.seq
(.reg [aM 10 3,
aM 11 0,
aO 12 (.len (aT 11)),
aO 13 (.bin .lss (aT 10) (aT 12))] [] [0, 3, 13])
(.cond (aT 13)
(.skip)
(.ext 0)))
(.seq
(.blk 1 (.seq
(.reg [aM 16 0,
aM 17 3,
aI 18 1 16 17,
aL 19 18,
aM 20 0,
aM 21 3,
aO 22 (.bin .sub (aT 21) (.val (.int .i64 1))),
aI 23 1 20 22,
aL 24 23,
aO 25 (.bin .eql (aT 19) (aT 24))] [] [0, 3, 25])
(.cond (aT 25)
(.seq
(.reg [aM 26 0,
aM 27 3,
aO 28 (.slc 1 (aT 26) (some (aT 27)) none none),
aM 4 28] [] [0, 3, 4])
(.seq
(.seq
(.reg [aO 5 (.mv (.val (.int .i64 1)))] [] [0, 3, 4, 5])
(.blk 2 (.loop (.seq
(.seq
(.reg [aM 29 5,
aM 30 4,
aO 31 (.len (aT 30)),
aO 32 (.bin .lss (aT 29) (aT 31))] [] [0, 3, 4, 5, 32])
(.cond (aT 32)
(.skip)
(.ext 2)))
(.seq
(.blk 3 (.seq
(.reg [aM 35 4,
aM 36 5,
aI 37 1 35 36,
aL 38 37,
aM 39 4,
aM 40 5,
aO 41 (.bin .sub (aT 40) (.val (.int .i64 1))),
aI 42 1 39 41,
aL 43 42,
aO 44 (.bin .neq (aT 38) (aT 43))] [] [0, 3, 4, 5, 44])
(.cond (aT 44)
(.seq
(.reg [aM 45 0,
aM 46 3,
aM 47 4,
aM 48 5,
aI 49 1 47 48,
aL 50 49,
aI 51 1 45 46,
aZ (.st 1 (aT 51) (aT 50))] [] [0, 3, 4, 5])
(.reg [aM 52 3,
aO 53 (.bin .add (aT 52) (.val (.int .i64 1))),
aM 3 53] [] [0, 3, 4, 5]))
(.skip))))
(.reg [aM 33 5,
aO 34 (.bin .add (aT 33) (.val (.int .i64 1))),
aM 5 34] [] [0, 3, 4, 5]))))))
(.seq
(.reg [aM 54 0,
aM 55 3,
aO 56 (.slc 1 (aT 54) (some (aT 55)) none none),
aZ (.clr 1 [(.int .i64 0)] (aT 56))] [] [0, 3])
(.seq
(.reg [aM 57 0,
aM 58 3,
aO 59 (.slc 1 (aT 57) none (some (aT 58)) none),
aM 2 59] [] [2])
(.ret)))))
(.skip))))
(.reg [aM 14 3,
aO 15 (.bin .add (aT 14) (.val (.int .i64 1))),
aM 3 15] [] [0, 3]))))))
(.seq
(.reg [aM 60 0,
aM 2 60] [] [2])
(.ret))))⟩
theorem pf147_ok : fnOk Tryz.prog 147 pf147 = true := by kernel_rfl

/-- hinterland/rail.Ends -/
def pf149 : PFn := ⟨22, 1, [.tmp 2, .tmp 3, .tmp 4], .seq
(.reg [aO 2 (.mv (.val (.int .i64 0))),
aO 3 (.mv (.val (.int .i64 0))),
aO 4 (.mv (.val (.int .i64 0)))] [] [0])
(.seq
(.seq
(.reg [aM 5 0] [] [0, 5])
(.blk 0 (.seq
(.seq
(.reg [aO 7 (.bin .eql (aT 5) (.val (.int .i64 0))),
aM 6 7] [] [0, 5, 6])
(.cond (aT 6)
(.skip)
(.reg [aO 8 (.bin .eql (aT 5) (.val (.int .i64 1))),
aM 6 8] [] [0, 5, 6])))
(.cond (aT 6)
(.seq
(.reg [aM 9 0,
aM 10 0,
aO 11 (.bin .add (aT 10) (.val (.int .i64 2))),
aM 2 9,
aM 3 11,
aO 4 (.mv (.val (.int .i64 0)))] [] [2, 3, 4])
(.ret))
(.seq
(.seq
(.reg [aO 13 (.bin .eql (aT 5) (.val (.int .i64 2))),
aM 12 13] [] [0, 5, 12])
(.cond (aT 12)
(.skip)
(.seq
(.reg [aO 14 (.bin .eql (aT 5) (.val (.int .i64 3))),
aM 12 14] [] [0, 5, 12])
(.cond (aT 12)
(.skip)
(.seq
(.reg [aO 15 (.bin .eql (aT 5) (.val (.int .i64 4))),
aM 12 15] [] [0, 5, 12])
(.cond (aT 12)
(.skip)
(.reg [aO 16 (.bin .eql (aT 5) (.val (.int .i64 5))),
aM 12 16] [] [0, 12])))))))
(.cond (aT 12)
(.seq
(.reg [aM 17 0,
aO 18 (.bin .sub (aT 17) (.val (.int .i64 2))),
aM 19 0,
aO 20 (.bin .sub (aT 19) (.val (.int .i64 1))),
aO 21 (.bin .rem (aT 20) (.val (.int .i64 4))),
aM 2 18,
aM 3 21,
aO 4 (.mv (.val (.int .i64 0)))] [] [2, 3, 4])
(.ret))
(.skip)))))))
(.seq
(.reg [aO 2 (.mv (.val (.int .i64 0))),
aO 3 (.mv (.val (.int .i64 0))),
aO 4 (.mv (.val (.int .i64 1)))] [] [2, 3, 4])
(.ret)))⟩
theorem pf149_ok : fnOk Tryz.prog 149 pf149 = true := by kernel_rfl

/-- cmp.isNaN[int] -/
def pf150 : PFn := ⟨6, 1, [.tmp 2], .seq
(.reg [aO 2 (.mv (.val (.bool false)))] [] [0])
(.seq
(.reg [aM 3 0,
aM 4 0,
aO 5 (.bin .neq (aT 3) (aT 4)),
aM 2 5] [] [2])
(.ret))⟩
theorem pf150_ok : fnOk Tryz.prog 150 pf150 = true := by kernel_rfl

/-- hinterland/train.own_1 -/
def pf153 : PFn := ⟨16, 2, [.tmp 3], .seq
(.reg [aO 2 (.boxp 54 (aT 0)),
aO 3 (.mv (.val (.bool false)))] [] [1, 2])
(.seq
(.reg [aF 4 0 2,
aL 5 4,
aF 6 0 1,
aL 7 6,
aO 8 (.bin .eql (aT 5) (aT 7)),
aM 9 8,
bF 10 9 true 1 2,
bL 11 9 true 10,
bF 12 9 true 1 1,
bL 13 9 true 12,
bO 14 9 true (.bin .eql (aT 11) (aT 13)),
aO 15 (.pick (aT 9) (aT 14) (.val (.bool false))),
aM 3 15] [] [3])
(.ret))⟩
theorem pf153_ok : fnOk Tryz.prog 153 pf153 = true := by kernel_rfl

/-- hinterland/block.Shows -/
def pf154 : PFn := ⟨84, 3, [.tmp 6, .tmp 7], .seq
(.reg [aO 3 (.boxp 25 (aT 0)),
aO 6 (.mv (.val (.list .nil 1 []))),
aO 7 (.mv (.val (.int .i64 0)))] [] [1, 2, 3])
(.seq
(.seq
(.reg [aN 18 4 3,
aM 19 1,
aO 20 (.call 54 .pure [(aT 18), (aT 19)]),
aM 8 20] [] [1, 2, 3, 8])
(.seq
(.reg [aM 21 8,
aO 22 (.bin .neq (aT 21) (.val (.int .i64 0)))] [] [1, 2, 3, 8, 22])
(.cond (aT 22)
(.seq
(.reg [aM 23 8,
aO 6 (.mv (.val (.list .nil 1 []))),
aM 7 23] [] [6, 7])
(.ret))
(.skip))))
(.seq
(.reg [aN 24 4 3,
aM 25 1,
aO 26 (.call 163 .pure [(aT 24), (aT 25)]),
aM 9 26] [] [1, 2, 3, 9])
(.seq
(.reg [aN 27 4 3,
aM 28 1,
aM 29 9,
aM 30 2,
aO 31 (.call 167 .pure [(aT 27), (aT 28), (aT 29), (aT 30)]),
aM 10 31] [] [1, 9, 10])
(.seq
(.reg [aM 32 1,
aO 33 (.len (aT 32)),
aO 34 (.mks 4 1 1 [(.bool false)] (aT 33) (aT 33)),
aM 11 34] [] [1, 9, 10, 11])
(.seq
(.seq
(.reg [aO 12 (.mv (.val (.bool true)))] [] [1, 9, 10, 11, 12])
(.blk 0 (.loop (.trim (.seq
(.seq
(.reg [aM 35 12] [] [1, 9, 10, 11, 35])
(.cond (aT 35)
(.skip)
(.ext 0)))
(.blk 1 (.seq
(.reg [aO 12 (.mv (.val (.bool false)))] [] [1, 9, 10, 11, 12])
(.seq
(.reg [aM 36 10,
aO 37 (.len (aT 36)),
aO 38 (.mv (.val (.int .i64 0)))] [] [1, 9, 10, 11, 12, 36, 37, 38])
(.blk 2 (.loop (.trim (.seq
(.reg [aO 39 (.bin .lss (aT 38) (aT 37))] [] [1, 9, 10, 11, 12, 36, 37, 38, 39])
(.seq
(.cond (aT 39)
(.skip)
(.ext 2))
(.seq
(.blk 3 (.seq
(.reg [aM 40 38,
aI 41 3 36 38,
aN 42 3 41,
aO 14 (.zer 200 (.agg [(.list .nil 1 []), (.bool false), (.bool false)])),
aM 13 40,
aZ (.st 3 (aT 14) (aT 42))] [] [1, 9, 10, 11, 12, 13, 14, 36, 37, 38])
(.seq
(.seq
(.reg [aM 43 11,
aM 44 13,
aI 45 1 43 44,
aL 46 45,
aM 47 46,
bF 48 47 false 1 14,
bL 49 47 false 48,
bO 50 47 false (.un .not (aT 49)),
aO 51 (.pick (aT 47) (.val (.bool true)) (aT 50))] [] [1, 9, 10, 11, 12, 13, 14, 36, 37, 38, 51])
(.cond (aT 51)
(.ext 3)
(.skip)))
(.seq
(.reg [aO 15 (.mv (.val (.bool true)))] [] [1, 9, 10, 11, 12, 13, 14, 15, 36, 37, 38])
(.seq
(.seq
(.reg [aF 52 0 14,
aL 53 52,
aO 54 (.len (aT 53)),
aO 55 (.mv (.val (.int .i64 0)))] [] [1, 9, 10, 11, 12, 13, 14, 15, 36, 37, 38, 53, 54, 55])
(.blk 4 (.loop (.seq
(.reg [aO 56 (.bin .lss (aT 55) (aT 54))] [] [1, 9, 10, 11, 12, 13, 14, 15, 36, 37, 38, 53, 54, 55, 56])
(.seq
(.cond (aT 56)
(.skip)
(.ext 4))
(.seq
(.blk 5 (.seq
(.reg [aI 57 1 53 55,
aL 58 57,
aM 17 58] [] [1, 9, 10, 11, 12, 13, 14, 15, 17, 36, 37, 38, 53, 54, 55])
(.reg [aM 59 15,
aM 60 59,
bF 61 60 true 2 14,
bL 62 60 true 61,
bO 63 60 true (.un .not (aT 62)),
bM 64 60 true 63,
bM 65 64 false 1,
bM 66 64 false 9,
bM 67 64 false 11,
bM 68 64 false 13,
bM 69 64 false 17,
bO 70 64 false (.call 168 .pure [(aT 65), (aT 66), (aT 67), (aT 68), (aT 69)]),
bO 71 60 true (.pick (aT 64) (.val (.bool true)) (aT 70)),
aO 72 (.pick (aT 60) (aT 71) (.val (.bool false))),
aM 15 72] [] [1, 9, 10, 11, 12, 13, 14, 15, 36, 37, 38, 53, 54, 55])))
(.reg [aO 73 (.bin .add (aT 55) (.val (.int .i64 1))),
aM 55 73] [] [1, 9, 10, 11, 12, 13, 14, 15, 36, 37, 38, 53, 54, 55])))))))
(.reg [aM 74 11,
aM 75 13,
aM 76 15,
aM 77 12,
aM 78 77,
bM 79 78 false 15,
aO 80 (.pick (aT 78) (.val (.bool true)) (aT 79)),
aI 81 1 74 75,
aZ (.st 1 (aT 81) (aT 76)),
aM 12 80] [] [1, 9, 10, 11, 12, 36, 37, 38]))))))
(.reg [aO 82 (.bin .add (aT 38) (.val (.int .i64 1))),
aM 38 82] [] [1, 9, 10, 11, 12, 36, 37, 38])))))))))))))))
(.seq
(.reg [aM 83 11,
aM 6 83,
aO 7 (.mv (.val (.int .i64 0)))] [] [6, 7])
(.ret)))))))⟩
theorem pf154_ok : fnOk Tryz.prog 154 pf154 = true := by kernel_rfl

/-- hinterland/rail.there -/
def pf156 : PFn := ⟨33, 2, [.tmp 4], .seq
(.reg [aO 2 (.boxp 25 (aT 0)),
aO 3 (.boxp 54 (aT 1)),
aO 4 (.mv (.val (.int .i64 0)))] [] [2, 3])
(.seq
(.seq
(.reg [aN 8 3 3,
aO 9 (.call 170 .pure [(aT 8)]),
aM 7 9,
aO 10 (.ext 0 (aT 7)),
aO 11 (.ext 1 (aT 7)),
aO 5 (.zer 54 (.agg [(.int .i64 0), (.int .i64 0), (.int .i64 0)])),
aZ (.st 3 (aT 5) (aT 10)),
aM 6 11] [] [2, 3, 6])
(.seq
(.reg [aM 12 6,
aO 13 (.bin .neq (aT 12) (.val (.int .i64 0)))] [] [2, 3, 6, 13])
(.cond (aT 13)
(.seq
(.reg [aM 14 6,
aM 4 14] [] [4])
(.ret))
(.skip))))
(.seq
(.seq
(.reg [aN 15 4 2,
aF 16 0 3,
aL 17 16,
aO 18 (.call 171 .pure [(aT 15), (aT 17)]),
aO 19 (.un .not (aT 18)),
aM 20 19,
bF 21 20 false 2 2,
bL 22 20 false 21,
bF 23 20 false 0 3,
bL 24 20 false 23,
bO 25 20 false (.iaS 1 (aT 22) (aT 24)),
bL 26 20 false 25,
bF 27 20 false 1 3,
bL 28 20 false 27,
bO 29 20 false (.bin .shr (aT 26) (aT 28)),
bO 30 20 false (.bin .and (aT 29) (.val (.int .i64 1))),
bO 31 20 false (.bin .eql (aT 30) (.val (.int .i64 0))),
aO 32 (.pick (aT 20) (.val (.bool true)) (aT 31))] [] [32])
(.cond (aT 32)
(.seq
(.reg [aO 4 (.mv (.val (.int .i64 2)))] [] [4])
(.ret))
(.skip)))
(.seq
(.reg [aO 4 (.mv (.val (.int .i64 0)))] [] [4])
(.ret))))⟩
theorem pf156_ok : fnOk Tryz.prog 156 pf156 = true := by kernel_rfl

/-- hinterland/rail.beside -/
def pf157 : PFn := ⟨54, 4, [.tmp 8, .tmp 9], .seq
(.reg [aO 8 (.mv (.val (.int .i64 0))),
aO 9 (.mv (.val (.bool false)))] [] [0, 1, 2, 3])
(.seq
(.reg [aM 12 2,
aM 13 0,
aO 14 (.bin .rem (aT 12) (aT 13)),
aM 15 2,
aM 16 0,
aO 17 (.bin .quo (aT 15) (aT 16)),
aM 10 14,
aM 11 17] [] [0, 1, 3, 10, 11])
(.seq
(.seq
(.reg [aM 18 3] [] [0, 1, 3, 10, 11, 18])
(.blk 0 (.seq
(.seq
(.reg [aO 20 (.bin .eql (aT 18) (.val (.int .i64 0))),
aM 19 20] [] [0, 1, 3, 10, 11, 18, 19])
(.cond (aT 19)
(.skip)
(.reg [aO 21 (.bin .eql (aT 18) (.val (.int .i64 2))),
aM 19 21] [] [0, 1, 3, 10, 11, 18, 19])))
(.cond (aT 19)
(.reg [aM 22 10,
aM 23 3,
aO 24 (.bin .sub (.val (.int .i64 1)) (aT 23)),
aO 25 (.bin .add (aT 22) (aT 24)),
aM 10 25] [] [0, 1, 10, 11])
(.seq
(.seq
(.reg [aO 27 (.bin .eql (aT 18) (.val (.int .i64 1))),
aM 26 27] [] [0, 1, 3, 10, 11, 18, 26])
(.cond (aT 26)
(.skip)
(.reg [aO 28 (.bin .eql (aT 18) (.val (.int .i64 3))),
aM 26 28] [] [0, 1, 3, 10, 11, 26])))
(.cond (aT 26)
(.reg [aM 29 11,
aM 30 3,
aO 31 (.bin .sub (.val (.int .i64 2)) (aT 30)),
aO 32 (.bin .add (aT 29) (aT 31)),
aM 11 32] [] [0, 1, 10, 11])
(.skip)))))))
(.seq
(.reg [aM 33 11,
aM 34 0,
aO 35 (.bin .mul (aT 33) (aT 34)),
aM 36 10,
aO 37 (.bin .add (aT 35) (aT 36)),
aM 38 10,
aO 39 (.bin .geq (aT 38) (.val (.int .i64 0))),
aM 40 39,
bM 41 40 true 10,
bM 42 40 true 0,
bO 43 40 true (.bin .lss (aT 41) (aT 42)),
aO 44 (.pick (aT 40) (aT 43) (.val (.bool false))),
aM 45 44,
bM 46 45 true 11,
bO 47 45 true (.bin .geq (aT 46) (.val (.int .i64 0))),
aO 48 (.pick (aT 45) (aT 47) (.val (.bool false))),
aM 49 48,
bM 50 49 true 11,
bM 51 49 true 1,
bO 52 49 true (.bin .lss (aT 50) (aT 51)),
aO 53 (.pick (aT 49) (aT 52) (.val (.bool false))),
aM 8 37,
aM 9 53] [] [8, 9])
(.ret))))⟩
theorem pf157_ok : fnOk Tryz.prog 157 pf157 = true := by kernel_rfl

/-- hinterland/rail.other -/
def pf158 : PFn := ⟨28, 2, [.tmp 4, .tmp 5], .seq
(.reg [aO 4 (.mv (.val (.int .i64 0))),
aO 5 (.mv (.val (.bool false)))] [] [0, 1])
(.seq
(.reg [aM 10 0,
aO 11 (.call 149 .pure [(aT 10)]),
aM 9 11,
aO 12 (.ext 0 (aT 9)),
aO 13 (.ext 1 (aT 9)),
aO 14 (.ext 2 (aT 9)),
aM 6 12,
aM 7 13,
aM 8 14] [] [1, 6, 7, 8])
(.seq
(.blk 0 (.seq
(.reg [aM 16 8,
aO 17 (.bin .neq (aT 16) (.val (.int .i64 0))),
aM 15 17] [] [1, 6, 7, 15])
(.cond (aT 15)
(.seq
(.reg [aO 4 (.mv (.val (.int .i64 0))),
aO 5 (.mv (.val (.bool false)))] [] [4, 5])
(.ret))
(.seq
(.reg [aM 19 1,
aM 20 6,
aO 21 (.bin .eql (aT 19) (aT 20)),
aM 18 21] [] [1, 6, 7, 18])
(.cond (aT 18)
(.seq
(.reg [aM 22 7,
aM 4 22,
aO 5 (.mv (.val (.bool true)))] [] [4, 5])
(.ret))
(.seq
(.reg [aM 24 1,
aM 25 7,
aO 26 (.bin .eql (aT 24) (aT 25)),
aM 23 26] [] [6, 23])
(.cond (aT 23)
(.seq
(.reg [aM 27 6,
aM 4 27,
aO 5 (.mv (.val (.bool true)))] [] [4, 5])
(.ret))
(.skip))))))))
(.seq
(.reg [aO 4 (.mv (.val (.int .i64 0))),
aO 5 (.mv (.val (.bool false)))] [] [4, 5])
(.ret))))⟩
theorem pf158_ok : fnOk Tryz.prog 158 pf158 = true := by kernel_rfl

/-- slices.pdqsortCmpFunc[hinterland/api.Spot] -/
def pf159 : PFn := ⟨148, 5, [], .seq
(.reg [aO 10 (.mv (.val (.bool true)))] [] [0, 1, 2, 3, 4, 10])
(.seq
(.reg [aO 11 (.mv (.val (.bool true)))] [] [0, 1, 2, 3, 4, 10, 11])
(.blk 0 (.loop (.blk 1 (.seq
(.reg [aM 21 2,
aM 22 1,
aO 23 (.bin .sub (aT 21) (aT 22)),
aM 12 23] [] [0, 1, 2, 3, 4, 10, 11, 12])
(.seq
(.seq
(.reg [aM 24 12,
aO 25 (.bin .leq (aT 24) (.val (.int .i64 12)))] [] [0, 1, 2, 3, 4, 10, 11, 12, 25])
(.cond (aT 25)
(.seq
(.reg [aM 26 0,
aM 27 1,
aM 28 2,
aM 29 4,
aO 30 (.call 172 .opn [(aT 26), (aT 27), (aT 28), (aT 29)])] [] [])
(.ret))
(.skip)))
(.seq
(.seq
(.reg [aM 31 3,
aO 32 (.bin .eql (aT 31) (.val (.int .i64 0)))] [] [0, 1, 2, 3, 4, 10, 11, 12, 32])
(.cond (aT 32)
(.seq
(.reg [aM 33 0,
aM 34 1,
aM 35 2,
aM 36 4,
aO 37 (.call 173 .opn [(aT 33), (aT 34), (aT 35), (aT 36)])] [] [])
(.ret))
(.skip)))
(.seq
(.seq
(.reg [aM 38 10,
aO 39 (.un .not (aT 38))] [] [0, 1, 2, 3, 4, 10, 11, 12, 39])
(.cond (aT 39)
(.seq
(.reg [aM 40 0,
aM 41 1,
aM 42 2,
aM 43 4,
aO 44 (.call 174 .opn [(aT 40), (aT 41), (aT 42), (aT 43)])] [] [0, 1, 2, 3, 4, 10, 11, 12])
(.reg [aM 45 3,
aO 46 (.bin .sub (aT 45) (.val (.int .i64 1))),
aM 3 46] [] [0, 1, 2, 3, 4, 10, 11, 12]))
(.skip)))
(.seq
(.reg [aM 48 0,
aM 49 1,
aM 50 2,
aM 51 4,
aO 52 (.call 175 .pure [(aT 48), (aT 49), (aT 50), (aT 51)]),
aM 47 52,
aO 53 (.ext 0 (aT 47)),
aO 54 (.ext 1 (aT 47)),
aM 13 53,
aM 14 54] [] [0, 1, 2, 3, 4, 10, 11, 12, 13, 14])
(.seq
(.seq
(.reg [aM 55 14,
aO 56 (.bin .eql (aT 55) (.val (.int .i64 2)))] [] [0, 1, 2, 3, 4, 10, 11, 12, 13, 14, 56])
(.cond (aT 56)
(.seq
(.reg [aM 57 0,
aM 58 1,
aM 59 2,
aM 60 4,
aO 61 (.call 176 .opn [(aT 57), (aT 58), (aT 59), (aT 60)])] [] [0, 1, 2, 3, 4, 10, 11, 12, 13])
(.seq
(.reg [aM 62 2,
aO 63 (.bin .sub (aT 62) (.val (.int .i64 1))),
aM 64 13,
aM 65 1,
aO 66 (.bin .sub (aT 64) (aT 65)),
aO 67 (.bin .sub (aT 63) (aT 66)),
aM 13 67] [] [0, 1, 2, 3, 4, 10, 11, 12, 13])
(.reg [aO 14 (.mv (.val (.int .i64 1)))] [] [0, 1, 2, 3, 4, 10, 11, 12, 13, 14])))
(.skip)))
(.seq
(.seq
(.reg [aM 68 10,
aM 69 68,
bM 70 69 true 11,
aO 71 (.pick (aT 69) (aT 70) (.val (.bool false))),
aM 72 71,
bM 73 72 true 14,
bO 74 72 true (.bin .eql (aT 73) (.val (.int .i64 1))),
aO 75 (.pick (aT 72) (aT 74) (.val (.bool false)))] [] [0, 1, 2, 3, 4, 10, 11, 12, 13, 75])
(.cond (aT 75)
(.seq
(.reg [aM 76 0,
aM 77 1,
aM 78 2,
aM 79 4,
aO 80 (.call 177 .opn [(aT 76), (aT 77), (aT 78), (aT 79)])] [] [0, 1, 2, 3, 4, 10, 11, 12, 13, 80])
(.cond (aT 80)
(.ret)
(.skip)))
(.skip)))
(.seq
(.seq
(.reg [aM 81 1,
aO 82 (.bin .gtr (aT 81) (.val (.int .i64 0))),
aM 83 82,
bM 84 83 true 4,
bM 85 83 true 0,
bM 86 83 true 1,
bO 87 83 true (.bin .sub (aT 86) (.val (.int .i64 1))),
bO 88 83 true (.iaS 3 (aT 85) (aT 87)),
bN 89 83 true 3 88,
bM 90 83 true 0,
bM 91 83 true 13,
bO 92 83 true (.iaS 3 (aT 90) (aT 91)),
bN 93 83 true 3 92,
bO 94 83 true (.callv (aT 84) .pure [(aT 89), (aT 93)]),
bO 95 83 true (.bin .lss (aT 94) (.val (.int .i64 0))),
bO 96 83 true (.un .not (aT 95)),
aO 97 (.pick (aT 83) (aT 96) (.val (.bool false)))] [] [0, 1, 2, 3, 4, 10, 11, 12, 13, 97])
(.cond (aT 97)
(.seq
(.reg [aM 98 0,
aM 99 1,
aM 100 2,
aM 101 13,
aM 102 4,
aO 103 (.call 178 .opn [(aT 98), (aT 99), (aT 100), (aT 101), (aT 102)]),
aM 15 103] [] [0, 2, 3, 4, 10, 11, 15])
(.seq
(.reg [aM 104 15,
aM 1 104] [] [0, 1, 2, 3, 4, 10, 11])
(.ext 1)))
(.skip)))
(.seq
(.reg [aM 106 0,
aM 107 1,
aM 108 2,
aM 109 13,
aM 110 4,
aO 111 (.call 179 .opn [(aT 106), (aT 107), (aT 108), (aT 109), (aT 110)]),
aM 105 111,
aO 112 (.ext 0 (aT 105)),
aO 113 (.ext 1 (aT 105)),
aM 16 112,
aM 17 113] [] [0, 1, 2, 3, 4, 12, 16, 17])
(.seq
(.reg [aM 114 17,
aM 11 114] [] [0, 1, 2, 3, 4, 11, 12, 16])
(.seq
(.reg [aM 115 16,
aM 116 1,
aO 117 (.bin .sub (aT 115) (aT 116)),
aM 118 2,
aM 119 16,
aO 120 (.bin .sub (aT 118) (aT 119)),
aM 18 117,
aM 19 120] [] [0, 1, 2, 3, 4, 11, 12, 16, 18, 19])
(.seq
(.reg [aM 121 12,
aO 122 (.bin .quo (aT 121) (.val (.int .i64 8))),
aM 20 122] [] [0, 1, 2, 3, 4, 11, 16, 18, 19, 20])
(.seq
(.reg [aM 123 18,
aM 124 19,
aO 125 (.bin .lss (aT 123) (aT 124))] [] [0, 1, 2, 3, 4, 11, 16, 18, 19, 20, 125])
(.cond (aT 125)
(.seq
(.reg [aM 126 18,
aM 127 20,
aO 128 (.bin .geq (aT 126) (aT 127)),
aM 10 128] [] [0, 1, 2, 3, 4, 10, 11, 16])
(.seq
(.reg [aM 129 0,
aM 130 1,
aM 131 16,
aM 132 3,
aM 133 4,
aO 134 (.call 159 .opn [(aT 129), (aT 130), (aT 131), (aT 132), (aT 133)])] [] [0, 2, 3, 4, 10, 11, 16])
(.reg [aM 135 16,
aO 136 (.bin .add (aT 135) (.val (.int .i64 1))),
aM 1 136] [] [0, 1, 2, 3, 4, 10, 11])))
(.seq
(.reg [aM 137 19,
aM 138 20,
aO 139 (.bin .geq (aT 137) (aT 138)),
aM 10 139] [] [0, 1, 2, 3, 4, 10, 11, 16])
(.seq
(.reg [aM 140 0,
aM 141 16,
aO 142 (.bin .add (aT 141) (.val (.int .i64 1))),
aM 143 2,
aM 144 3,
aM 145 4,
aO 146 (.call 159 .opn [(aT 140), (aT 142), (aT 143), (aT 144), (aT 145)])] [] [0, 1, 3, 4, 10, 11, 16])
(.reg [aM 147 16,
aM 2 147] [] [0, 1, 2, 3, 4, 10, 11])))))))))))))))))))))⟩
theorem pf159_ok : fnOk Tryz.prog 159 pf159 = true := by kernel_rfl

/-- math/bits.Len -/
def pf160 : PFn := ⟨8, 1, [.tmp 2], .seq
(.reg [aO 2 (.mv (.val (.int .i64 0)))] [] [0])
(.seq
(.cond (.val (.bool false))
(.seq
(.reg [aM 3 0,
aO 4 (.conv .u32 (aT 3)),
aO 5 (.call 180 .pure [(aT 4)]),
aM 2 5] [] [2])
(.ret))
(.skip))
(.seq
(.reg [aM 6 0,
aO 7 (.call 181 .pure [(aT 6)]),
aM 2 7] [] [2])
(.ret)))⟩
theorem pf160_ok : fnOk Tryz.prog 160 pf160 = true := by kernel_rfl

/-- hinterland/block.parts -/
def pf162 : PFn := ⟨47, 1, [.tmp 2], .seq
(.reg [aO 2 (.mv (.val (.list .nil 2 [])))] [] [0])
(.seq
(.reg [aO 3 (.nacc 179 2)] [] [0, 3])
(.seq
(.reg [aO 8 (.mkm none),
aM 4 8] [] [0, 3, 4])
(.seq
(.seq
(.reg [aM 9 0,
aO 10 (.len (aT 9)),
aO 11 (.mv (.val (.int .i64 0)))] [] [3, 4, 9, 10, 11])
(.blk 0 (.loop (.seq
(.reg [aO 12 (.bin .lss (aT 11) (aT 10))] [] [3, 4, 9, 10, 11, 12])
(.seq
(.cond (aT 12)
(.skip)
(.ext 0))
(.seq
(.blk 1 (.seq
(.reg [aM 13 11,
aI 14 1 9 11,
aL 15 14,
aM 5 13,
aM 6 15] [] [3, 4, 5, 6, 9, 10, 11])
(.seq
(.seq
(.reg [aM 16 6,
aO 17 (.bin .lss (aT 16) (.val (.int .i64 0)))] [] [3, 4, 5, 6, 9, 10, 11, 17])
(.cond (aT 17)
(.ext 1)
(.skip)))
(.seq
(.seq
(.reg [aM 18 6,
aM 19 5,
aO 20 (.bin .eql (aT 18) (aT 19))] [] [3, 4, 5, 6, 9, 10, 11, 20])
(.cond (aT 20)
(.seq
(.reg [aM 21 4,
aM 22 6,
aM 23 3,
aO 24 (.len (aT 23)),
aZ (.mup none (aT 21) (aT 22) (aT 24))] [] [3, 4, 5, 6, 9, 10, 11])
(.reg [aM 25 3,
aM 26 6,
aO 27 (.bld [(.int .i64 0), (.list .nil 1 [])] [(0, 1, (aT 26))]),
aO 28 (.bsl 1 2 [(.int .i64 0), (.list .nil 1 [])] [(0, 2, (aT 27))]),
aO 29 (.app 179 2 32 (aT 25) (aT 28)),
aM 3 29] [] [3, 4, 5, 6, 9, 10, 11]))
(.skip)))
(.seq
(.reg [aM 30 3,
aM 31 4,
aM 32 6,
aO 33 (.mlk none (.int .i64 0) false (aT 31) (aT 32)),
aI 34 2 30 33,
aM 7 34] [] [3, 4, 5, 7, 9, 10, 11])
(.reg [aM 35 7,
aM 36 7,
aO 37 (.nck (aT 36)),
aF 38 1 37,
aL 39 38,
aM 40 5,
aO 41 (.bsl 1 1 [(.int .i64 0)] [(0, 1, (aT 40))]),
aO 42 (.app 3 1 8 (aT 39) (aT 41)),
aO 43 (.nck (aT 35)),
aF 44 1 43,
aZ (.st 1 (aT 44) (aT 42))] [] [3, 4, 9, 10, 11]))))))
(.reg [aO 45 (.bin .add (aT 11) (.val (.int .i64 1))),
aM 11 45] [] [3, 4, 9, 10, 11])))))))
(.seq
(.reg [aM 46 3,
aM 2 46] [] [2])
(.ret)))))⟩
theorem pf162_ok : fnOk Tryz.prog 162 pf162 = true := by kernel_rfl

/-- hinterland/block.numbers -/
def pf163 : PFn := ⟨97, 2, [.tmp 4], .seq
(.reg [aO 2 (.boxp 25 (aT 0)),
aO 4 (.mv (.val (.list .nil 1 [])))] [] [1, 2])
(.seq
(.reg [aF 10 0 2,
aL 11 10,
aO 12 (.bin .mul (.val (.int .i64 8)) (aT 11)),
aF 13 1 2,
aL 14 13,
aO 15 (.bin .mul (aT 12) (aT 14)),
aO 16 (.mks 3 1 8 [(.int .i64 0)] (aT 15) (aT 15)),
aM 5 16] [] [1, 2, 5])
(.seq
(.seq
(.reg [aM 17 5,
aO 18 (.len (aT 17)),
aO 19 (.mv (.val (.int .i64 0)))] [] [1, 2, 5, 18, 19])
(.blk 0 (.loop (.seq
(.reg [aO 20 (.bin .lss (aT 19) (aT 18))] [] [1, 2, 5, 18, 19, 20])
(.seq
(.cond (aT 20)
(.skip)
(.ext 0))
(.seq
(.blk 1 (.seq
(.reg [aM 21 19,
aM 6 21] [] [1, 2, 5, 6, 18, 19])
(.reg [aM 22 5,
aM 23 6,
aM 24 6,
aI 25 1 22 23,
aZ (.st 1 (aT 25) (aT 24))] [] [1, 2, 5, 18, 19])))
(.reg [aO 26 (.bin .add (aT 19) (.val (.int .i64 1))),
aM 19 26] [] [1, 2, 5, 18, 19])))))))
(.seq
(.seq
(.reg [aF 27 0 2,
aL 28 27,
aF 29 1 2,
aL 30 29,
aO 31 (.bin .mul (aT 28) (aT 30)),
aO 32 (.mv (.val (.int .i64 0)))] [] [1, 2, 5, 31, 32])
(.blk 2 (.loop (.seq
(.reg [aO 33 (.bin .lss (aT 32) (aT 31))] [] [1, 2, 5, 31, 32, 33])
(.seq
(.cond (aT 33)
(.skip)
(.ext 2))
(.seq
(.blk 3 (.seq
(.reg [aM 34 32,
aM 7 34] [] [1, 2, 5, 7, 31, 32])
(.seq
(.reg [aN 35 4 2,
aM 36 5,
aM 37 7,
aO 38 (.call 182 .opn [(aT 35), (aT 36), (aT 37)])] [] [1, 2, 5, 7, 31, 32])
(.seq
(.seq
(.reg [aM 39 7,
aF 40 0 2,
aL 41 40,
aO 42 (.bin .rem (aT 39) (aT 41)),
aF 43 0 2,
aL 44 43,
aO 45 (.bin .sub (aT 44) (.val (.int .i64 1))),
aO 46 (.bin .lss (aT 42) (aT 45))] [] [1, 2, 5, 7, 31, 32, 46])
(.cond (aT 46)
(.reg [aN 47 4 2,
aM 48 1,
aM 49 5,
aM 50 7,
aM 51 7,
aO 52 (.bin .add (aT 51) (.val (.int .i64 1))),
aO 53 (.call 183 .opn [(aT 47), (aT 48), (aT 49), (aT 50), (.val (.int .i64 0)), (aT 52)])] [] [1, 2, 5, 7, 31, 32])
(.skip)))
(.seq
(.reg [aM 54 7,
aF 55 0 2,
aL 56 55,
aO 57 (.bin .quo (aT 54) (aT 56)),
aF 58 1 2,
aL 59 58,
aO 60 (.bin .sub (aT 59) (.val (.int .i64 1))),
aO 61 (.bin .lss (aT 57) (aT 60))] [] [1, 2, 5, 7, 31, 32, 61])
(.cond (aT 61)
(.reg [aN 62 4 2,
aM 63 1,
aM 64 5,
aM 65 7,
aM 66 7,
aF 67 0 2,
aL 68 67,
aO 69 (.bin .add (aT 66) (aT 68)),
aO 70 (.call 183 .opn [(aT 62), (aT 63), (aT 64), (aT 65), (.val (.int .i64 1)), (aT 69)])] [] [1, 2, 5, 31, 32])
(.skip)))))))
(.reg [aO 71 (.bin .add (aT 32) (.val (.int .i64 1))),
aM 32 71] [] [1, 2, 5, 31, 32])))))))
(.seq
(.reg [aM 72 5,
aO 73 (.len (aT 72)),
aO 74 (.mks 3 1 8 [(.int .i64 0)] (aT 73) (aT 73)),
aM 8 74] [] [2, 5, 8])
(.seq
(.seq
(.reg [aM 75 8,
aO 76 (.len (aT 75)),
aO 77 (.mv (.val (.int .i64 0)))] [] [2, 5, 8, 76, 77])
(.blk 4 (.loop (.seq
(.reg [aO 78 (.bin .lss (aT 77) (aT 76))] [] [2, 5, 8, 76, 77, 78])
(.seq
(.cond (aT 78)
(.skip)
(.ext 4))
(.seq
(.blk 5 (.seq
(.reg [aM 79 77,
aM 9 79] [] [2, 5, 8, 9, 76, 77])
(.seq
(.reg [aM 80 8,
aM 81 9,
aI 82 1 80 81,
aZ (.st 1 (aT 82) (.val (.int .i64 (-1))))] [] [2, 5, 8, 9, 76, 77])
(.seq
(.reg [aN 83 4 2,
aM 84 9,
aO 85 (.bin .quo (aT 84) (.val (.int .i64 8))),
aM 86 9,
aO 87 (.bin .rem (aT 86) (.val (.int .i64 8))),
aO 88 (.call 106 .pure [(aT 83), (aT 85), (aT 87)])] [] [2, 5, 8, 9, 76, 77, 88])
(.cond (aT 88)
(.reg [aM 89 8,
aM 90 9,
aM 91 5,
aM 92 9,
aO 93 (.call 184 .opn [(aT 91), (aT 92)]),
aI 94 1 89 90,
aZ (.st 1 (aT 94) (aT 93))] [] [2, 5, 8, 76, 77])
(.skip))))))
(.reg [aO 95 (.bin .add (aT 77) (.val (.int .i64 1))),
aM 77 95] [] [2, 5, 8, 76, 77])))))))
(.seq
(.reg [aM 96 8,
aM 4 96] [] [4])
(.ret)))))))⟩
theorem pf163_ok : fnOk Tryz.prog 163 pf163 = true := by kernel_rfl

/-- slices.pdqsortOrdered[int] -/
def pf164 : PFn := ⟨134, 4, [], .seq
(.reg [aO 8 (.mv (.val (.bool true)))] [] [0, 1, 2, 3, 8])
(.seq
(.reg [aO 9 (.mv (.val (.bool true)))] [] [0, 1, 2, 3, 8, 9])
(.blk 0 (.loop (.blk 1 (.seq
(.reg [aM 19 2,
aM 20 1,
aO 21 (.bin .sub (aT 19) (aT 20)),
aM 10 21] [] [0, 1, 2, 3, 8, 9, 10])
(.seq
(.seq
(.reg [aM 22 10,
aO 23 (.bin .leq (aT 22) (.val (.int .i64 12)))] [] [0, 1, 2, 3, 8, 9, 10, 23])
(.cond (aT 23)
(.seq
(.reg [aM 24 0,
aM 25 1,
aM 26 2,
aO 27 (.call 185 .opn [(aT 24), (aT 25), (aT 26)])] [] [])
(.ret))
(.skip)))
(.seq
(.seq
(.reg [aM 28 3,
aO 29 (.bin .eql (aT 28) (.val (.int .i64 0)))] [] [0, 1, 2, 3, 8, 9, 10, 29])
(.cond (aT 29)
(.seq
(.reg [aM 30 0,
aM 31 1,
aM 32 2,
aO 33 (.call 186 .opn [(aT 30), (aT 31), (aT 32)])] [] [])
(.ret))
(.skip)))
(.seq
(.seq
(.reg [aM 34 8,
aO 35 (.un .not (aT 34))] [] [0, 1, 2, 3, 8, 9, 10, 35])
(.cond (aT 35)
(.seq
(.reg [aM 36 0,
aM 37 1,
aM 38 2,
aO 39 (.call 187 .opn [(aT 36), (aT 37), (aT 38)])] [] [0, 1, 2, 3, 8, 9, 10])
(.reg [aM 40 3,
aO 41 (.bin .sub (aT 40) (.val (.int .i64 1))),
aM 3 41] [] [0, 1, 2, 3, 8, 9, 10]))
(.skip)))
(.seq
(.reg [aM 43 0,
aM 44 1,
aM 45 2,
aO 46 (.call 188 .pure [(aT 43), (aT 44), (aT 45)]),
aM 42 46,
aO 47 (.ext 0 (aT 42)),
aO 48 (.ext 1 (aT 42)),
aM 11 47,
aM 12 48] [] [0, 1, 2, 3, 8, 9, 10, 11, 12])
(.seq
(.seq
(.reg [aM 49 12,
aO 50 (.bin .eql (aT 49) (.val (.int .i64 2)))] [] [0, 1, 2, 3, 8, 9, 10, 11, 12, 50])
(.cond (aT 50)
(.seq
(.reg [aM 51 0,
aM 52 1,
aM 53 2,
aO 54 (.call 189 .opn [(aT 51), (aT 52), (aT 53)])] [] [0, 1, 2, 3, 8, 9, 10, 11])
(.seq
(.reg [aM 55 2,
aO 56 (.bin .sub (aT 55) (.val (.int .i64 1))),
aM 57 11,
aM 58 1,
aO 59 (.bin .sub (aT 57) (aT 58)),
aO 60 (.bin .sub (aT 56) (aT 59)),
aM 11 60] [] [0, 1, 2, 3, 8, 9, 10, 11])
(.reg [aO 12 (.mv (.val (.int .i64 1)))] [] [0, 1, 2, 3, 8, 9, 10, 11, 12])))
(.skip)))
(.seq
(.seq
(.reg [aM 61 8,
aM 62 61,
bM 63 62 true 9,
aO 64 (.pick (aT 62) (aT 63) (.val (.bool false))),
aM 65 64,
bM 66 65 true 12,
bO 67 65 true (.bin .eql (aT 66) (.val (.int .i64 1))),
aO 68 (.pick (aT 65) (aT 67) (.val (.bool false)))] [] [0, 1, 2, 3, 8, 9, 10, 11, 68])
(.cond (aT 68)
(.seq
(.reg [aM 69 0,
aM 70 1,
aM 71 2,
aO 72 (.call 190 .opn [(aT 69), (aT 70), (aT 71)])] [] [0, 1, 2, 3, 8, 9, 10, 11, 72])
(.cond (aT 72)
(.ret)
(.skip)))
(.skip)))
(.seq
(.seq
(.reg [aM 73 1,
aO 74 (.bin .gtr (aT 73) (.val (.int .i64 0))),
aM 75 74,
bM 76 75 true 0,
bM 77 75 true 1,
bO 78 75 true (.bin .sub (aT 77) (.val (.int .i64 1))),
bO 79 75 true (.iaS 1 (aT 76) (aT 78)),
bL 80 75 true 79,
bM 81 75 true 0,
bM 82 75 true 11,
bO 83 75 true (.iaS 1 (aT 81) (aT 82)),
bL 84 75 true 83,
bO 85 75 true (.call 191 .pure [(aT 80), (aT 84)]),
bO 86 75 true (.un .not (aT 85)),
aO 87 (.pick (aT 75) (aT 86) (.val (.bool false)))] [] [0, 1, 2, 3, 8, 9, 10, 11, 87])
(.cond (aT 87)
(.seq
(.reg [aM 88 0,
aM 89 1,
aM 90 2,
aM 91 11,
aO 92 (.call 192 .opn [(aT 88), (aT 89), (aT 90), (aT 91)]),
aM 13 92] [] [0, 2, 3, 8, 9, 13])
(.seq
(.reg [aM 93 13,
aM 1 93] [] [0, 1, 2, 3, 8, 9])
(.ext 1)))
(.skip)))
(.seq
(.reg [aM 95 0,
aM 96 1,
aM 97 2,
aM 98 11,
aO 99 (.call 193 .opn [(aT 95), (aT 96), (aT 97), (aT 98)]),
aM 94 99,
aO 100 (.ext 0 (aT 94)),
aO 101 (.ext 1 (aT 94)),
aM 14 100,
aM 15 101] [] [0, 1, 2, 3, 10, 14, 15])
(.seq
(.reg [aM 102 15,
aM 9 102] [] [0, 1, 2, 3, 9, 10, 14])
(.seq
(.reg [aM 103 14,
aM 104 1,
aO 105 (.bin .sub (aT 103) (aT 104)),
aM 106 2,
aM 107 14,
aO 108 (.bin .sub (aT 106) (aT 107)),
aM 16 105,
aM 17 108] [] [0, 1, 2, 3, 9, 10, 14, 16, 17])
(.seq
(.reg [aM 109 10,
aO 110 (.bin .quo (aT 109) (.val (.int .i64 8))),
aM 18 110] [] [0, 1, 2, 3, 9, 14, 16, 17, 18])
(.seq
(.reg [aM 111 16,
aM 112 17,
aO 113 (.bin .lss (aT 111) (aT 112))] [] [0, 1, 2, 3, 9, 14, 16, 17, 18, 113])
(.cond (aT 113)
(.seq
(.reg [aM 114 16,
aM 115 18,
aO 116 (.bin .geq (aT 114) (aT 115)),
aM 8 116] [] [0, 1, 2, 3, 8, 9, 14])
(.seq
(.reg [aM 117 0,
aM 118 1,
aM 119 14,
aM 120 3,
aO 121 (.call 164 .opn [(aT 117), (aT 118), (aT 119), (aT 120)])] [] [0, 2, 3, 8, 9, 14])
(.reg [aM 122 14,
aO 123 (.bin .add (aT 122) (.val (.int .i64 1))),
aM 1 123] [] [0, 1, 2, 3, 8, 9])))
(.seq
(.reg [aM 124 17,
aM 125 18,
aO 126 (.bin .geq (aT 124) (aT 125)),
aM 8 126] [] [0, 1, 2, 3, 8, 9, 14])
(.seq
(.reg [aM 127 0,
aM 128 14,
aO 129 (.bin .add (aT 128) (.val (.int .i64 1))),
aM 130 2,
aM 131 3,
aO 132 (.call 164 .opn [(aT 127), (aT 129), (aT 130), (aT 131)])] [] [0, 1, 3, 8, 9, 14])
(.reg [aM 133 14,
aM 2 133] [] [0, 1, 2, 3, 8, 9])))))))))))))))))))))⟩
theorem pf164_ok : fnOk Tryz.prog 164 pf164 = true := by kernel_rfl

/-- hinterland/block.askers -/
def pf167 : PFn := ⟨79, 4, [.tmp 8], .seq
(.reg [aO 4 (.boxp 25 (aT 0)),
aO 8 (.mv (.val (.list .nil 3 [])))] [] [1, 2, 3, 4])
(.seq
(.reg [aM 17 1,
aO 18 (.len (aT 17)),
aO 19 (.mks 200 3 32 [(.list .nil 1 []), (.bool false), (.bool false)] (aT 18) (aT 18)),
aM 9 19] [] [1, 2, 3, 4, 9])
(.seq
(.seq
(.reg [aM 20 1,
aO 21 (.len (aT 20)),
aO 22 (.mv (.val (.int .i64 0)))] [] [2, 3, 4, 9, 20, 21, 22])
(.blk 0 (.loop (.trim (.seq
(.reg [aO 23 (.bin .lss (aT 22) (aT 21))] [] [2, 3, 4, 9, 20, 21, 22, 23])
(.seq
(.cond (aT 23)
(.skip)
(.ext 0))
(.seq
(.blk 1 (.seq
(.reg [aM 24 22,
aI 25 4 20 22,
aN 26 4 25,
aO 11 (.zer 75 (.agg [(.int .i64 0), (.int .i64 0), (.int .i64 0), (.int .i64 0)])),
aM 10 24,
aZ (.st 4 (aT 11) (aT 26))] [] [2, 3, 4, 9, 10, 11, 20, 21, 22])
(.seq
(.reg [aN 28 4 4,
aF 29 0 11,
aL 30 29,
aF 31 1 11,
aL 32 31,
aF 33 2 11,
aL 34 33,
aO 35 (.bld [(.int .i64 0), (.int .i64 0), (.int .i64 0)] [(0, 1, (aT 30)), (1, 1, (aT 32)), (2, 1, (aT 34))]),
aO 36 (.call 90 .pure [(aT 28), (aT 35)]),
aM 27 36,
aO 37 (.ext 0 (aT 27)),
aO 38 (.ext 1 (aT 27)),
aM 12 37,
aM 13 38] [] [2, 3, 4, 9, 10, 11, 12, 20, 21, 22])
(.seq
(.reg [aM 39 2,
aM 40 12,
aO 41 (.call 194 .pure [(aT 39), (aT 40)]),
aF 42 3 11,
aL 43 42,
aO 44 (.bin .eql (aT 43) (.val (.int .i64 1))),
aM 45 44,
bF 46 45 false 3 11,
bL 47 45 false 46,
bO 48 45 false (.bin .eql (aT 47) (.val (.int .i64 3))),
aO 49 (.pick (aT 45) (.val (.bool true)) (aT 48)),
aO 50 (.bld [(.list .nil 1 []), (.bool false), (.bool false)] [(0, 1, (aT 41)), (2, 1, (aT 49))]),
aO 14 (.zer 200 (.agg [(.list .nil 1 []), (.bool false), (.bool false)])),
aZ (.st 3 (aT 14) (aT 50))] [(2, 12), (2, 13), (4, 12), (4, 13), (8, 12), (8, 13)] [2, 3, 4, 9, 10, 14, 20, 21, 22])
(.seq
(.reg [aF 51 0 14,
aL 52 51,
aO 53 (.len (aT 52)),
aO 54 (.bin .gtr (aT 53) (.val (.int .i64 0))),
aF 55 1 14,
aZ (.st 1 (aT 55) (aT 54))] [] [2, 3, 4, 9, 10, 14, 20, 21, 22])
(.seq
(.seq
(.reg [aF 56 0 14,
aL 57 56,
aO 58 (.len (aT 57)),
aO 59 (.mv (.val (.int .i64 0)))] [] [2, 3, 4, 9, 10, 14, 20, 21, 22, 57, 58, 59])
(.blk 2 (.loop (.seq
(.reg [aO 60 (.bin .lss (aT 59) (aT 58))] [] [2, 3, 4, 9, 10, 14, 20, 21, 22, 57, 58, 59, 60])
(.seq
(.cond (aT 60)
(.skip)
(.ext 2))
(.seq
(.blk 3 (.seq
(.reg [aI 61 1 57 59,
aL 62 61,
aM 16 62] [] [2, 3, 4, 9, 10, 14, 16, 20, 21, 22, 57, 58, 59])
(.reg [aF 63 1 14,
aL 64 63,
aM 65 64,
bM 66 65 true 3,
bM 67 65 true 16,
bO 68 65 true (.call 79 .pure [(aT 66), (aT 67)]),
bO 69 65 true (.un .not (aT 68)),
aO 70 (.pick (aT 65) (aT 69) (.val (.bool false))),
aF 71 1 14,
aZ (.st 1 (aT 71) (aT 70))] [] [2, 3, 4, 9, 10, 14, 20, 21, 22, 57, 58, 59])))
(.reg [aO 72 (.bin .add (aT 59) (.val (.int .i64 1))),
aM 59 72] [] [2, 3, 4, 9, 10, 14, 20, 21, 22, 57, 58, 59])))))))
(.reg [aM 73 9,
aM 74 10,
aN 75 3 14,
aI 76 3 73 74,
aZ (.st 3 (aT 76) (aT 75))] [] [2, 3, 4, 9, 20, 21, 22])))))))
(.reg [aO 77 (.bin .add (aT 22) (.val (.int .i64 1))),
aM 22 77] [] [2, 3, 4, 9, 20, 21, 22]))))))))
(.seq
(.reg [aM 78 9,
aM 8 78] [] [8])
(.ret))))⟩
theorem pf167_ok : fnOk Tryz.prog 167 pf167 = true := by kernel_rfl

/-- hinterland/block.open -/
def pf168 : PFn := ⟨30, 5, [.tmp 10], .seq
(.reg [aO 10 (.mv (.val (.bool false)))] [] [0, 1, 2, 3, 4])
(.seq
(.reg [aO 11 (.mv (.val (.bool true)))] [] [0, 1, 2, 3, 4, 11])
(.seq
(.seq
(.reg [aM 13 0,
aO 14 (.len (aT 13)),
aO 15 (.mv (.val (.int .i64 0)))] [] [0, 1, 2, 3, 4, 11, 14, 15])
(.blk 0 (.loop (.seq
(.reg [aO 16 (.bin .lss (aT 15) (aT 14))] [] [0, 1, 2, 3, 4, 11, 14, 15, 16])
(.seq
(.cond (aT 16)
(.skip)
(.ext 0))
(.seq
(.blk 1 (.seq
(.reg [aM 17 15,
aM 12 17] [] [0, 1, 2, 3, 4, 11, 12, 14, 15])
(.seq
(.reg [aM 18 0,
aM 19 1,
aM 20 3,
aM 21 12,
aM 22 4,
aO 23 (.call 195 .pure [(aT 18), (aT 19), (aT 20), (aT 21), (aT 22)])] [] [0, 1, 2, 3, 4, 11, 12, 14, 15, 23])
(.cond (aT 23)
(.seq
(.seq
(.reg [aM 24 2,
aM 25 12,
aI 26 1 24 25,
aL 27 26] [] [0, 1, 2, 3, 4, 14, 15, 27])
(.cond (aT 27)
(.seq
(.reg [aO 10 (.mv (.val (.bool true)))] [] [10])
(.ret))
(.skip)))
(.reg [aO 11 (.mv (.val (.bool false)))] [] [0, 1, 2, 3, 4, 11, 14, 15]))
(.skip)))))
(.reg [aO 28 (.bin .add (aT 15) (.val (.int .i64 1))),
aM 15 28] [] [0, 1, 2, 3, 4, 11, 14, 15])))))))
(.seq
(.reg [aM 29 11,
aM 10 29] [] [10])
(.ret))))⟩
theorem pf168_ok : fnOk Tryz.prog 168 pf168 = true := by kernel_rfl

/-- hinterland/rail.Back -/
def pf170 : PFn := ⟨20, 1, [.cell 2 (some 3), .tmp 3], .seq
(.reg [aO 1 (.boxm 54 (aT 0)),
aO 2 (.zer 54 (.agg [(.int .i64 0), (.int .i64 0), (.int .i64 0)])),
aO 3 (.mv (.val (.int .i64 0)))] [] [1, 2])
(.seq
(.reg [aF 7 1 1,
aL 8 7,
aF 9 2 1,
aL 10 9,
aO 11 (.call 158 .pure [(aT 8), (aT 10)]),
aM 6 11,
aO 12 (.ext 0 (aT 6)),
aO 13 (.ext 1 (aT 6)),
aM 4 12,
aM 5 13] [] [1, 2, 4, 5])
(.seq
(.seq
(.reg [aM 14 5,
aO 15 (.un .not (aT 14))] [] [1, 2, 4, 15])
(.cond (aT 15)
(.seq
(.reg [aO 16 (.bld [(.int .i64 0), (.int .i64 0), (.int .i64 0)] []),
aZ (.st 3 (aT 2) (aT 16)),
aO 3 (.mv (.val (.int .i64 1)))] [] [2, 3])
(.ret))
(.skip)))
(.seq
(.reg [aM 17 4,
aF 18 2 1,
aZ (.st 1 (aT 18) (aT 17))] [] [1, 2])
(.seq
(.reg [aN 19 3 1,
aZ (.st 3 (aT 2) (aT 19)),
aO 3 (.mv (.val (.int .i64 0)))] [] [2, 3])
(.ret)))))⟩
theorem pf170_ok : fnOk Tryz.prog 170 pf170 = true := by kernel_rfl

/-- hinterland/rail.tile -/
def pf171 : PFn := ⟨16, 2, [.tmp 4], .seq
(.reg [aO 2 (.boxp 25 (aT 0)),
aO 4 (.mv (.val (.bool false)))] [] [1, 2])
(.seq
(.reg [aM 5 1,
aO 6 (.bin .geq (aT 5) (.val (.int .i64 0))),
aM 7 6,
bM 8 7 true 1,
bF 9 7 true 0 2,
bL 10 7 true 9,
bF 11 7 true 1 2,
bL 12 7 true 11,
bO 13 7 true (.bin .mul (aT 10) (aT 12)),
bO 14 7 true (.bin .lss (aT 8) (aT 13)),
aO 15 (.pick (aT 7) (aT 14) (.val (.bool false))),
aM 4 15] [] [4])
(.ret))⟩
theorem pf171_ok : fnOk Tryz.prog 171 pf171 = true := by kernel_rfl

/-- slices.insertionSortCmpFunc[hinterland/api.Spot] -/
def pf172 : PFn := ⟨53, 4, [], .seq
(.reg [aM 10 1,
aO 11 (.bin .add (aT 10) (.val (.int .i64 1))),
aM 8 11] [] [0, 1, 2, 3, 8])
(.blk 0 (.loop (.seq
(.seq
(.reg [aM 12 8,
aM 13 2,
aO 14 (.bin .lss (aT 12) (aT 13))] [] [0, 1, 2, 3, 8, 14])
(.cond (aT 14)
(.skip)
(.ext 0)))
(.seq
(.blk 1 (.seq
(.reg [aM 17 8,
aM 9 17] [] [0, 1, 2, 3, 8, 9])
(.blk 2 (.loop (.seq
(.seq
(.reg [aM 18 9,
aM 19 1,
aO 20 (.bin .gtr (aT 18) (aT 19)),
aM 21 20,
bM 22 21 true 3,
bM 23 21 true 0,
bM 24 21 true 9,
bO 25 21 true (.iaS 3 (aT 23) (aT 24)),
bN 26 21 true 3 25,
bM 27 21 true 0,
bM 28 21 true 9,
bO 29 21 true (.bin .sub (aT 28) (.val (.int .i64 1))),
bO 30 21 true (.iaS 3 (aT 27) (aT 29)),
bN 31 21 true 3 30,
bO 32 21 true (.callv (aT 22) .pure [(aT 26), (aT 31)]),
bO 33 21 true (.bin .lss (aT 32) (.val (.int .i64 0))),
aO 34 (.pick (aT 21) (aT 33) (.val (.bool false)))] [] [0, 1, 2, 3, 8, 9, 34])
(.cond (aT 34)
(.skip)
(.ext 2)))
(.seq
(.blk 3 (.reg [aM 37 0,
aM 38 9,
aM 39 0,
aM 40 9,
aO 41 (.bin .sub (aT 40) (.val (.int .i64 1))),
aM 42 0,
aM 43 9,
aO 44 (.bin .sub (aT 43) (.val (.int .i64 1))),
aI 45 3 42 44,
aN 46 3 45,
aM 47 0,
aM 48 9,
aI 49 3 47 48,
aN 50 3 49,
aI 51 3 37 38,
aZ (.st 3 (aT 51) (aT 46)),
aI 52 3 39 41,
aZ (.st 3 (aT 52) (aT 50))] [] [0, 1, 2, 3, 8, 9]))
(.reg [aM 35 9,
aO 36 (.bin .sub (aT 35) (.val (.int .i64 1))),
aM 9 36] [] [0, 1, 2, 3, 8, 9])))))))
(.reg [aM 15 8,
aO 16 (.bin .add (aT 15) (.val (.int .i64 1))),
aM 8 16] [] [0, 1, 2, 3, 8])))))⟩
theorem pf172_ok : fnOk Tryz.prog 172 pf172 = true := by kernel_rfl

/-- slices.heapSortCmpFunc[hinterland/api.Spot] -/
def pf173 : PFn := ⟨60, 4, [], .seq
(.reg [aM 13 1,
aM 8 13] [] [0, 1, 2, 3, 8])
(.seq
(.reg [aO 9 (.mv (.val (.int .i64 0)))] [] [0, 1, 2, 3, 8, 9])
(.seq
(.reg [aM 14 2,
aM 15 1,
aO 16 (.bin .sub (aT 14) (aT 15)),
aM 10 16] [] [0, 3, 8, 9, 10])
(.seq
(.seq
(.reg [aM 17 10,
aO 18 (.bin .sub (aT 17) (.val (.int .i64 1))),
aO 19 (.bin .quo (aT 18) (.val (.int .i64 2))),
aM 11 19] [] [0, 3, 8, 9, 10, 11])
(.blk 0 (.loop (.seq
(.seq
(.reg [aM 20 11,
aO 21 (.bin .geq (aT 20) (.val (.int .i64 0)))] [] [0, 3, 8, 9, 10, 11, 21])
(.cond (aT 21)
(.skip)
(.ext 0)))
(.seq
(.blk 1 (.reg [aM 24 0,
aM 25 11,
aM 26 10,
aM 27 8,
aM 28 3,
aO 29 (.call 197 .opn [(aT 24), (aT 25), (aT 26), (aT 27), (aT 28)])] [] [0, 3, 8, 9, 10, 11]))
(.reg [aM 22 11,
aO 23 (.bin .sub (aT 22) (.val (.int .i64 1))),
aM 11 23] [] [0, 3, 8, 9, 10, 11]))))))
(.seq
(.reg [aM 30 10,
aO 31 (.bin .sub (aT 30) (.val (.int .i64 1))),
aM 12 31] [] [0, 3, 8, 9, 12])
(.blk 2 (.loop (.seq
(.seq
(.reg [aM 32 12,
aO 33 (.bin .geq (aT 32) (.val (.int .i64 0)))] [] [0, 3, 8, 9, 12, 33])
(.cond (aT 33)
(.skip)
(.ext 2)))
(.seq
(.blk 3 (.seq
(.reg [aM 36 0,
aM 37 8,
aM 38 0,
aM 39 8,
aM 40 12,
aO 41 (.bin .add (aT 39) (aT 40)),
aM 42 0,
aM 43 8,
aM 44 12,
aO 45 (.bin .add (aT 43) (aT 44)),
aI 46 3 42 45,
aN 47 3 46,
aM 48 0,
aM 49 8,
aI 50 3 48 49,
aN 51 3 50,
aI 52 3 36 37,
aZ (.st 3 (aT 52) (aT 47)),
aI 53 3 38 41,
aZ (.st 3 (aT 53) (aT 51))] [] [0, 3, 8, 9, 12])
(.reg [aM 54 0,
aM 55 9,
aM 56 12,
aM 57 8,
aM 58 3,
aO 59 (.call 197 .opn [(aT 54), (aT 55), (aT 56), (aT 57), (aT 58)])] [] [0, 3, 8, 9, 12])))
(.reg [aM 34 12,
aO 35 (.bin .sub (aT 34) (.val (.int .i64 1))),
aM 12 35] [] [0, 3, 8, 9, 12])))))))))⟩
theorem pf173_ok : fnOk Tryz.prog 173 pf173 = true := by kernel_rfl

/-- slices.breakPatternsCmpFunc[hinterland/api.Spot] -/
def pf174 : PFn := ⟨67, 4, [], .seq
(.reg [aM 13 2,
aM 14 1,
aO 15 (.bin .sub (aT 13) (aT 14)),
aM 8 15] [] [0, 1, 8])
(.seq
(.reg [aM 16 8,
aO 17 (.bin .geq (aT 16) (.val (.int .i64 8)))] [] [0, 1, 8, 17])
(.cond (aT 17)
(.seq
(.reg [aM 18 8,
aO 19 (.conv .u64 (aT 18)),
aO 9 (.zer 227 (.int .u64 0)),
aZ (.st 1 (aT 9) (aT 19))] [] [0, 1, 8, 9])
(.seq
(.reg [aM 20 8,
aO 21 (.call 198 .pure [(aT 20)]),
aM 10 21] [] [0, 1, 8, 9, 10])
(.seq
(.reg [aM 22 1,
aM 23 8,
aO 24 (.bin .quo (aT 23) (.val (.int .i64 4))),
aO 25 (.bin .mul (aT 24) (.val (.int .i64 2))),
aO 26 (.bin .add (aT 22) (aT 25)),
aO 27 (.bin .sub (aT 26) (.val (.int .i64 1))),
aM 11 27] [] [0, 1, 8, 9, 10, 11])
(.blk 0 (.loop (.seq
(.seq
(.reg [aM 28 11,
aM 29 1,
aM 30 8,
aO 31 (.bin .quo (aT 30) (.val (.int .i64 4))),
aO 32 (.bin .mul (aT 31) (.val (.int .i64 2))),
aO 33 (.bin .add (aT 29) (aT 32)),
aO 34 (.bin .add (aT 33) (.val (.int .i64 1))),
aO 35 (.bin .leq (aT 28) (aT 34))] [] [0, 1, 8, 9, 10, 11, 35])
(.cond (aT 35)
(.skip)
(.ext 0)))
(.seq
(.blk 1 (.seq
(.reg [aO 38 (.call 199 .opn [(aT 9)]),
aM 39 10,
aO 40 (.bin .sub (aT 39) (.val (.int .u64 1))),
aO 41 (.bin .and (aT 38) (aT 40)),
aO 42 (.conv .i64 (aT 41)),
aM 12 42] [] [0, 1, 8, 9, 10, 11, 12])
(.seq
(.seq
(.reg [aM 43 12,
aM 44 8,
aO 45 (.bin .geq (aT 43) (aT 44))] [] [0, 1, 8, 9, 10, 11, 12, 45])
(.cond (aT 45)
(.reg [aM 46 12,
aM 47 8,
aO 48 (.bin .sub (aT 46) (aT 47)),
aM 12 48] [] [0, 1, 8, 9, 10, 11, 12])
(.skip)))
(.reg [aM 49 0,
aM 50 11,
aM 51 0,
aM 52 1,
aM 53 12,
aO 54 (.bin .add (aT 52) (aT 53)),
aM 55 0,
aM 56 1,
aM 57 12,
aO 58 (.bin .add (aT 56) (aT 57)),
aI 59 3 55 58,
aN 60 3 59,
aM 61 0,
aM 62 11,
aI 63 3 61 62,
aN 64 3 63,
aI 65 3 49 50,
aZ (.st 3 (aT 65) (aT 60)),
aI 66 3 51 54,
aZ (.st 3 (aT 66) (aT 64))] [] [0, 1, 8, 9, 10, 11]))))
(.reg [aM 36 11,
aO 37 (.bin .add (aT 36) (.val (.int .i64 1))),
aM 11 37] [] [0, 1, 8, 9, 10, 11]))))))))
(.skip)))⟩
theorem pf174_ok : fnOk Tryz.prog 174 pf174 = true := by kernel_rfl

/-- slices.choosePivotCmpFunc[hinterland/api.Spot] -/
def pf175 : PFn := ⟨63, 4, [.tmp 8, .tmp 9], .seq
(.reg [aO 8 (.mv (.val (.int .i64 0))),
aO 9 (.mv (.val (.int .i64 0)))] [] [0, 1, 2, 3])
(.seq
(.reg [aM 15 2,
aM 16 1,
aO 17 (.bin .sub (aT 15) (aT 16)),
aM 10 17] [] [0, 1, 3, 10])
(.seq
(.reg [aO 11 (.zer 3 (.int .i64 0))] [] [0, 1, 3, 10, 11])
(.seq
(.reg [aM 18 1,
aM 19 10,
aO 20 (.bin .quo (aT 19) (.val (.int .i64 4))),
aO 21 (.bin .mul (aT 20) (.val (.int .i64 1))),
aO 22 (.bin .add (aT 18) (aT 21)),
aM 12 22] [] [0, 1, 3, 10, 11, 12])
(.seq
(.reg [aM 23 1,
aM 24 10,
aO 25 (.bin .quo (aT 24) (.val (.int .i64 4))),
aO 26 (.bin .mul (aT 25) (.val (.int .i64 2))),
aO 27 (.bin .add (aT 23) (aT 26)),
aM 13 27] [] [0, 1, 3, 10, 11, 12, 13])
(.seq
(.reg [aM 28 1,
aM 29 10,
aO 30 (.bin .quo (aT 29) (.val (.int .i64 4))),
aO 31 (.bin .mul (aT 30) (.val (.int .i64 3))),
aO 32 (.bin .add (aT 28) (aT 31)),
aM 14 32] [] [0, 3, 10, 11, 12, 13, 14])
(.seq
(.seq
(.reg [aM 33 10,
aO 34 (.bin .geq (aT 33) (.val (.int .i64 8)))] [] [0, 3, 10, 11, 12, 13, 14, 34])
(.cond (aT 34)
(.seq
(.seq
(.reg [aM 35 10,
aO 36 (.bin .geq (aT 35) (.val (.int .i64 50)))] [] [0, 3, 11, 12, 13, 14, 36])
(.cond (aT 36)
(.seq
(.reg [aM 37 0,
aM 38 12,
aM 39 3,
aO 40 (.call 200 .pure [(aT 37), (aT 38), (aT 11), (aT 39)]),
aM 12 40] [] [0, 3, 11, 12, 13, 14])
(.seq
(.reg [aM 41 0,
aM 42 13,
aM 43 3,
aO 44 (.call 200 .pure [(aT 41), (aT 42), (aT 11), (aT 43)]),
aM 13 44] [] [0, 3, 11, 12, 13, 14])
(.reg [aM 45 0,
aM 46 14,
aM 47 3,
aO 48 (.call 200 .pure [(aT 45), (aT 46), (aT 11), (aT 47)]),
aM 14 48] [] [0, 3, 11, 12, 13, 14])))
(.skip)))
(.reg [aM 49 0,
aM 50 12,
aM 51 13,
aM 52 14,
aM 53 3,
aO 54 (.call 201 .pure [(aT 49), (aT 50), (aT 51), (aT 52), (aT 11), (aT 53)]),
aM 13 54] [] [11, 13]))
(.skip)))
(.seq
(.reg [aL 55 11] [] [13, 55])
(.blk 0 (.seq
(.reg [aO 58 (.bin .eql (aT 55) (.val (.int .i64 0))),
aM 57 58] [] [13, 55, 57])
(.cond (aT 57)
(.seq
(.reg [aM 59 13,
aM 8 59,
aO 9 (.mv (.val (.int .i64 1)))] [] [8, 9])
(.ret))
(.seq
(.reg [aO 61 (.bin .eql (aT 55) (.val (.int .i64 12))),
aM 60 61] [] [13, 60])
(.cond (aT 60)
(.seq
(.reg [aM 62 13,
aM 8 62,
aO 9 (.mv (.val (.int .i64 2)))] [] [8, 9])
(.ret))
(.seq
(.reg [aM 56 13,
aM 8 56,
aO 9 (.mv (.val (.int .i64 0)))] [] [8, 9])
(.ret))))))))))))))⟩
theorem pf175_ok : fnOk Tryz.prog 175 pf175 = true := by kernel_rfl

/-- slices.reverseRangeCmpFunc[hinterland/api.Spot] -/
def pf176 : PFn := ⟨34, 4, [], .seq
(.reg [aM 10 1,
aM 8 10] [] [0, 2, 8])
(.seq
(.reg [aM 11 2,
aO 12 (.bin .sub (aT 11) (.val (.int .i64 1))),
aM 9 12] [] [0, 8, 9])
(.blk 0 (.loop (.seq
(.seq
(.reg [aM 13 8,
aM 14 9,
aO 15 (.bin .lss (aT 13) (aT 14))] [] [0, 8, 9, 15])
(.cond (aT 15)
(.skip)
(.ext 0)))
(.blk 1 (.seq
(.reg [aM 16 0,
aM 17 8,
aM 18 0,
aM 19 9,
aM 20 0,
aM 21 9,
aI 22 3 20 21,
aN 23 3 22,
aM 24 0,
aM 25 8,
aI 26 3 24 25,
aN 27 3 26,
aI 28 3 16 17,
aZ (.st 3 (aT 28) (aT 23)),
aI 29 3 18 19,
aZ (.st 3 (aT 29) (aT 27))] [] [0, 8, 9])
(.seq
(.reg [aM 30 8,
aO 31 (.bin .add (aT 30) (.val (.int .i64 1))),
aM 8 31] [] [0, 8, 9])
(.reg [aM 32 9,
aO 33 (.bin .sub (aT 32) (.val (.int .i64 1))),
aM 9 33] [] [0, 8, 9]))))))))⟩
theorem pf176_ok : fnOk Tryz.prog 176 pf176 = true := by kernel_rfl

/-- slices.partialInsertionSortCmpFunc[hinterland/api.Spot] -/
def pf177 : PFn := ⟨141, 4, [.tmp 8], .seq
(.reg [aO 8 (.mv (.val (.bool false)))] [] [0, 1, 2, 3])
(.seq
(.reg [aM 13 1,
aO 14 (.bin .add (aT 13) (.val (.int .i64 1))),
aM 9 14] [] [0, 1, 2, 3, 9])
(.seq
(.seq
(.reg [aO 10 (.mv (.val (.int .i64 0)))] [] [0, 1, 2, 3, 9, 10])
(.blk 0 (.loop (.seq
(.seq
(.reg [aM 15 10,
aO 16 (.bin .lss (aT 15) (.val (.int .i64 5)))] [] [0, 1, 2, 3, 9, 10, 16])
(.cond (aT 16)
(.skip)
(.ext 0)))
(.seq
(.blk 1 (.seq
(.blk 2 (.loop (.seq
(.seq
(.reg [aM 19 9,
aM 20 2,
aO 21 (.bin .lss (aT 19) (aT 20)),
aM 22 21,
bM 23 22 true 3,
bM 24 22 true 0,
bM 25 22 true 9,
bO 26 22 true (.iaS 3 (aT 24) (aT 25)),
bN 27 22 true 3 26,
bM 28 22 true 0,
bM 29 22 true 9,
bO 30 22 true (.bin .sub (aT 29) (.val (.int .i64 1))),
bO 31 22 true (.iaS 3 (aT 28) (aT 30)),
bN 32 22 true 3 31,
bO 33 22 true (.callv (aT 23) .pure [(aT 27), (aT 32)]),
bO 34 22 true (.bin .lss (aT 33) (.val (.int .i64 0))),
bO 35 22 true (.un .not (aT 34)),
aO 36 (.pick (aT 22) (aT 35) (.val (.bool false)))] [] [0, 1, 2, 3, 9, 10, 36])
(.cond (aT 36)
(.skip)
(.ext 2)))
(.blk 3 (.reg [aM 37 9,
aO 38 (.bin .add (aT 37) (.val (.int .i64 1))),
aM 9 38] [] [0, 1, 2, 3, 9, 10])))))
(.seq
(.seq
(.reg [aM 39 9,
aM 40 2,
aO 41 (.bin .eql (aT 39) (aT 40))] [] [0, 1, 2, 3, 9, 10, 41])
(.cond (aT 41)
(.seq
(.reg [aO 8 (.mv (.val (.bool true)))] [] [8])
(.ret))
(.skip)))
(.seq
(.seq
(.reg [aM 42 2,
aM 43 1,
aO 44 (.bin .sub (aT 42) (aT 43)),
aO 45 (.bin .lss (aT 44) (.val (.int .i64 50)))] [] [0, 1, 2, 3, 9, 10, 45])
(.cond (aT 45)
(.seq
(.reg [aO 8 (.mv (.val (.bool false)))] [] [8])
(.ret))
(.skip)))
(.seq
(.reg [aM 46 0,
aM 47 9,
aM 48 0,
aM 49 9,
aO 50 (.bin .sub (aT 49) (.val (.int .i64 1))),
aM 51 0,
aM 52 9,
aO 53 (.bin .sub (aT 52) (.val (.int .i64 1))),
aI 54 3 51 53,
aN 55 3 54,
aM 56 0,
aM 57 9,
aI 58 3 56 57,
aN 59 3 58,
aI 60 3 46 47,
aZ (.st 3 (aT 60) (aT 55)),
aI 61 3 48 50,
aZ (.st 3 (aT 61) (aT 59))] [] [0, 1, 2, 3, 9, 10])
(.seq
(.seq
(.reg [aM 62 9,
aM 63 1,
aO 64 (.bin .sub (aT 62) (aT 63)),
aO 65 (.bin .geq (aT 64) (.val (.int .i64 2)))] [] [0, 1, 2, 3, 9, 10, 65])
(.cond (aT 65)
(.seq
(.reg [aM 66 9,
aO 67 (.bin .sub (aT 66) (.val (.int .i64 1))),
aM 11 67] [] [0, 1, 2, 3, 9, 10, 11])
(.blk 4 (.loop (.seq
(.seq
(.reg [aM 68 11,
aO 69 (.bin .geq (aT 68) (.val (.int .i64 1)))] [] [0, 1, 2, 3, 9, 10, 11, 69])
(.cond (aT 69)
(.skip)
(.ext 4)))
(.seq
(.blk 5 (.seq
(.seq
(.reg [aM 72 3,
aM 73 0,
aM 74 11,
aI 75 3 73 74,
aN 76 3 75,
aM 77 0,
aM 78 11,
aO 79 (.bin .sub (aT 78) (.val (.int .i64 1))),
aI 80 3 77 79,
aN 81 3 80,
aO 82 (.callv (aT 72) .pure [(aT 76), (aT 81)]),
aO 83 (.bin .lss (aT 82) (.val (.int .i64 0))),
aO 84 (.un .not (aT 83))] [] [0, 1, 2, 3, 9, 10, 11, 84])
(.cond (aT 84)
(.ext 4)
(.skip)))
(.reg [aM 85 0,
aM 86 11,
aM 87 0,
aM 88 11,
aO 89 (.bin .sub (aT 88) (.val (.int .i64 1))),
aM 90 0,
aM 91 11,
aO 92 (.bin .sub (aT 91) (.val (.int .i64 1))),
aI 93 3 90 92,
aN 94 3 93,
aM 95 0,
aM 96 11,
aI 97 3 95 96,
aN 98 3 97,
aI 99 3 85 86,
aZ (.st 3 (aT 99) (aT 94)),
aI 100 3 87 89,
aZ (.st 3 (aT 100) (aT 98))] [] [0, 1, 2, 3, 9, 10, 11])))
(.reg [aM 70 11,
aO 71 (.bin .sub (aT 70) (.val (.int .i64 1))),
aM 11 71] [] [0, 1, 2, 3, 9, 10, 11]))))))
(.skip)))
(.seq
(.reg [aM 101 2,
aM 102 9,
aO 103 (.bin .sub (aT 101) (aT 102)),
aO 104 (.bin .geq (aT 103) (.val (.int .i64 2)))] [] [0, 1, 2, 3, 9, 10, 104])
(.cond (aT 104)
(.seq
(.reg [aM 105 9,
aO 106 (.bin .add (aT 105) (.val (.int .i64 1))),
aM 12 106] [] [0, 1, 2, 3, 9, 10, 12])
(.blk 6 (.loop (.seq
(.seq
(.reg [aM 107 12,
aM 108 2,
aO 109 (.bin .lss (aT 107) (aT 108))] [] [0, 1, 2, 3, 9, 10, 12, 109])
(.cond (aT 109)
(.skip)
(.ext 6)))
(.seq
(.blk 7 (.seq
(.seq
(.reg [aM 112 3,
aM 113 0,
aM 114 12,
aI 115 3 113 114,
aN 116 3 115,
aM 117 0,
aM 118 12,
aO 119 (.bin .sub (aT 118) (.val (.int .i64 1))),
aI 120 3 117 119,
aN 121 3 120,
aO 122 (.callv (aT 112) .pure [(aT 116), (aT 121)]),
aO 123 (.bin .lss (aT 122) (.val (.int .i64 0))),
aO 124 (.un .not (aT 123))] [] [0, 1, 2, 3, 9, 10, 12, 124])
(.cond (aT 124)
(.ext 6)
(.skip)))
(.reg [aM 125 0,
aM 126 12,
aM 127 0,
aM 128 12,
aO 129 (.bin .sub (aT 128) (.val (.int .i64 1))),
aM 130 0,
aM 131 12,
aO 132 (.bin .sub (aT 131) (.val (.int .i64 1))),
aI 133 3 130 132,
aN 134 3 133,
aM 135 0,
aM 136 12,
aI 137 3 135 136,
aN 138 3 137,
aI 139 3 125 126,
aZ (.st 3 (aT 139) (aT 134)),
aI 140 3 127 129,
aZ (.st 3 (aT 140) (aT 138))] [] [0, 1, 2, 3, 9, 10, 12])))
(.reg [aM 110 12,
aO 111 (.bin .add (aT 110) (.val (.int .i64 1))),
aM 12 111] [] [0, 1, 2, 3, 9, 10, 12]))))))
(.skip)))))))))
(.reg [aM 17 10,
aO 18 (.bin .add (aT 17) (.val (.int .i64 1))),
aM 10 18] [] [0, 1, 2, 3, 9, 10]))))))
(.seq
(.reg [aO 8 (.mv (.val (.bool false)))] [] [8])
(.ret))))⟩
theorem pf177_ok : fnOk Tryz.prog 177 pf177 = true := by kernel_rfl

/-- slices.partitionEqualCmpFunc[hinterland/api.Spot] -/
def pf178 : PFn := ⟨90, 5, [.tmp 10], .seq
(.reg [aO 10 (.mv (.val (.int .i64 0)))] [] [0, 1, 2, 3, 4])
(.seq
(.reg [aM 13 0,
aM 14 1,
aM 15 0,
aM 16 3,
aM 17 0,
aM 18 3,
aI 19 3 17 18,
aN 20 3 19,
aM 21 0,
aM 22 1,
aI 23 3 21 22,
aN 24 3 23,
aI 25 3 13 14,
aZ (.st 3 (aT 25) (aT 20)),
aI 26 3 15 16,
aZ (.st 3 (aT 26) (aT 24))] [] [0, 1, 2, 4])
(.seq
(.reg [aM 27 1,
aO 28 (.bin .add (aT 27) (.val (.int .i64 1))),
aM 29 2,
aO 30 (.bin .sub (aT 29) (.val (.int .i64 1))),
aM 11 28,
aM 12 30] [] [0, 1, 4, 11, 12])
(.seq
(.blk 0 (.loop (.blk 1 (.seq
(.blk 2 (.loop (.seq
(.seq
(.reg [aM 31 11,
aM 32 12,
aO 33 (.bin .leq (aT 31) (aT 32)),
aM 34 33,
bM 35 34 true 4,
bM 36 34 true 0,
bM 37 34 true 1,
bO 38 34 true (.iaS 3 (aT 36) (aT 37)),
bN 39 34 true 3 38,
bM 40 34 true 0,
bM 41 34 true 11,
bO 42 34 true (.iaS 3 (aT 40) (aT 41)),
bN 43 34 true 3 42,
bO 44 34 true (.callv (aT 35) .pure [(aT 39), (aT 43)]),
bO 45 34 true (.bin .lss (aT 44) (.val (.int .i64 0))),
bO 46 34 true (.un .not (aT 45)),
aO 47 (.pick (aT 34) (aT 46) (.val (.bool false)))] [] [0, 1, 4, 11, 12, 47])
(.cond (aT 47)
(.skip)
(.ext 2)))
(.blk 3 (.reg [aM 48 11,
aO 49 (.bin .add (aT 48) (.val (.int .i64 1))),
aM 11 49] [] [0, 1, 4, 11, 12])))))
(.seq
(.blk 4 (.loop (.seq
(.seq
(.reg [aM 50 11,
aM 51 12,
aO 52 (.bin .leq (aT 50) (aT 51)),
aM 53 52,
bM 54 53 true 4,
bM 55 53 true 0,
bM 56 53 true 1,
bO 57 53 true (.iaS 3 (aT 55) (aT 56)),
bN 58 53 true 3 57,
bM 59 53 true 0,
bM 60 53 true 12,
bO 61 53 true (.iaS 3 (aT 59) (aT 60)),
bN 62 53 true 3 61,
bO 63 53 true (.callv (aT 54) .pure [(aT 58), (aT 62)]),
bO 64 53 true (.bin .lss (aT 63) (.val (.int .i64 0))),
aO 65 (.pick (aT 53) (aT 64) (.val (.bool false)))] [] [0, 1, 4, 11, 12, 65])
(.cond (aT 65)
(.skip)
(.ext 4)))
(.blk 5 (.reg [aM 66 12,
aO 67 (.bin .sub (aT 66) (.val (.int .i64 1))),
aM 12 67] [] [0, 1, 4, 11, 12])))))
(.seq
(.seq
(.reg [aM 68 11,
aM 69 12,
aO 70 (.bin .gtr (aT 68) (aT 69))] [] [0, 1, 4, 11, 12, 70])
(.cond (aT 70)
(.ext 0)
(.skip)))
(.seq
(.reg [aM 71 0,
aM 72 11,
aM 73 0,
aM 74 12,
aM 75 0,
aM 76 12,
aI 77 3 75 76,
aN 78 3 77,
aM 79 0,
aM 80 11,
aI 81 3 79 80,
aN 82 3 81,
aI 83 3 71 72,
aZ (.st 3 (aT 83) (aT 78)),
aI 84 3 73 74,
aZ (.st 3 (aT 84) (aT 82))] [] [0, 1, 4, 11, 12])
(.seq
(.reg [aM 85 11,
aO 86 (.bin .add (aT 85) (.val (.int .i64 1))),
aM 11 86] [] [0, 1, 4, 11, 12])
(.reg [aM 87 12,
aO 88 (.bin .sub (aT 87) (.val (.int .i64 1))),
aM 12 88] [] [0, 1, 4, 11, 12])))))))))
(.seq
(.reg [aM 89 11,
aM 10 89] [] [10])
(.ret)))))⟩
theorem pf178_ok : fnOk Tryz.prog 178 pf178 = true := by kernel_rfl

/-- slices.partitionCmpFunc[hinterland/api.Spot] -/
def pf179 : PFn := ⟨178, 5, [.tmp 10, .tmp 11], .seq
(.reg [aO 10 (.mv (.val (.int .i64 0))),
aO 11 (.mv (.val (.bool false)))] [] [0, 1, 2, 3, 4])
(.seq
(.reg [aM 14 0,
aM 15 1,
aM 16 0,
aM 17 3,
aM 18 0,
aM 19 3,
aI 20 3 18 19,
aN 21 3 20,
aM 22 0,
aM 23 1,
aI 24 3 22 23,
aN 25 3 24,
aI 26 3 14 15,
aZ (.st 3 (aT 26) (aT 21)),
aI 27 3 16 17,
aZ (.st 3 (aT 27) (aT 25))] [] [0, 1, 2, 4])
(.seq
(.reg [aM 28 1,
aO 29 (.bin .add (aT 28) (.val (.int .i64 1))),
aM 30 2,
aO 31 (.bin .sub (aT 30) (.val (.int .i64 1))),
aM 12 29,
aM 13 31] [] [0, 1, 4, 12, 13])
(.seq
(.blk 0 (.loop (.seq
(.seq
(.reg [aM 32 12,
aM 33 13,
aO 34 (.bin .leq (aT 32) (aT 33)),
aM 35 34,
bM 36 35 true 4,
bM 37 35 true 0,
bM 38 35 true 12,
bO 39 35 true (.iaS 3 (aT 37) (aT 38)),
bN 40 35 true 3 39,
bM 41 35 true 0,
bM 42 35 true 1,
bO 43 35 true (.iaS 3 (aT 41) (aT 42)),
bN 44 35 true 3 43,
bO 45 35 true (.callv (aT 36) .pure [(aT 40), (aT 44)]),
bO 46 35 true (.bin .lss (aT 45) (.val (.int .i64 0))),
aO 47 (.pick (aT 35) (aT 46) (.val (.bool false)))] [] [0, 1, 4, 12, 13, 47])
(.cond (aT 47)
(.skip)
(.ext 0)))
(.blk 1 (.reg [aM 48 12,
aO 49 (.bin .add (aT 48) (.val (.int .i64 1))),
aM 12 49] [] [0, 1, 4, 12, 13])))))
(.seq
(.blk 2 (.loop (.seq
(.seq
(.reg [aM 50 12,
aM 51 13,
aO 52 (.bin .leq (aT 50) (aT 51)),
aM 53 52,
bM 54 53 true 4,
bM 55 53 true 0,
bM 56 53 true 13,
bO 57 53 true (.iaS 3 (aT 55) (aT 56)),
bN 58 53 true 3 57,
bM 59 53 true 0,
bM 60 53 true 1,
bO 61 53 true (.iaS 3 (aT 59) (aT 60)),
bN 62 53 true 3 61,
bO 63 53 true (.callv (aT 54) .pure [(aT 58), (aT 62)]),
bO 64 53 true (.bin .lss (aT 63) (.val (.int .i64 0))),
bO 65 53 true (.un .not (aT 64)),
aO 66 (.pick (aT 53) (aT 65) (.val (.bool false)))] [] [0, 1, 4, 12, 13, 66])
(.cond (aT 66)
(.skip)
(.ext 2)))
(.blk 3 (.reg [aM 67 13,
aO 68 (.bin .sub (aT 67) (.val (.int .i64 1))),
aM 13 68] [] [0, 1, 4, 12, 13])))))
(.seq
(.seq
(.reg [aM 69 12,
aM 70 13,
aO 71 (.bin .gtr (aT 69) (aT 70))] [] [0, 1, 4, 12, 13, 71])
(.cond (aT 71)
(.seq
(.reg [aM 72 0,
aM 73 13,
aM 74 0,
aM 75 1,
aM 76 0,
aM 77 1,
aI 78 3 76 77,
aN 79 3 78,
aM 80 0,
aM 81 13,
aI 82 3 80 81,
aN 83 3 82,
aI 84 3 72 73,
aZ (.st 3 (aT 84) (aT 79)),
aI 85 3 74 75,
aZ (.st 3 (aT 85) (aT 83))] [] [13])
(.seq
(.reg [aM 86 13,
aM 10 86,
aO 11 (.mv (.val (.bool true)))] [] [10, 11])
(.ret)))
(.skip)))
(.seq
(.reg [aM 87 0,
aM 88 12,
aM 89 0,
aM 90 13,
aM 91 0,
aM 92 13,
aI 93 3 91 92,
aN 94 3 93,
aM 95 0,
aM 96 12,
aI 97 3 95 96,
aN 98 3 97,
aI 99 3 87 88,
aZ (.st 3 (aT 99) (aT 94)),
aI 100 3 89 90,
aZ (.st 3 (aT 100) (aT 98))] [] [0, 1, 4, 12, 13])
(.seq
(.reg [aM 101 12,
aO 102 (.bin .add (aT 101) (.val (.int .i64 1))),
aM 12 102] [] [0, 1, 4, 12, 13])
(.seq
(.reg [aM 103 13,
aO 104 (.bin .sub (aT 103) (.val (.int .i64 1))),
aM 13 104] [] [0, 1, 4, 12, 13])
(.seq
(.blk 4 (.loop (.blk 5 (.seq
(.blk 6 (.loop (.seq
(.seq
(.reg [aM 105 12,
aM 106 13,
aO 107 (.bin .leq (aT 105) (aT 106)),
aM 108 107,
bM 109 108 true 4,
bM 110 108 true 0,
bM 111 108 true 12,
bO 112 108 true (.iaS 3 (aT 110) (aT 111)),
bN 113 108 true 3 112,
bM 114 108 true 0,
bM 115 108 true 1,
bO 116 108 true (.iaS 3 (aT 114) (aT 115)),
bN 117 108 true 3 116,
bO 118 108 true (.callv (aT 109) .pure [(aT 113), (aT 117)]),
bO 119 108 true (.bin .lss (aT 118) (.val (.int .i64 0))),
aO 120 (.pick (aT 108) (aT 119) (.val (.bool false)))] [] [0, 1, 4, 12, 13, 120])
(.cond (aT 120)
(.skip)
(.ext 6)))
(.blk 7 (.reg [aM 121 12,
aO 122 (.bin .add (aT 121) (.val (.int .i64 1))),
aM 12 122] [] [0, 1, 4, 12, 13])))))
(.seq
(.blk 8 (.loop (.seq
(.seq
(.reg [aM 123 12,
aM 124 13,
aO 125 (.bin .leq (aT 123) (aT 124)),
aM 126 125,
bM 127 126 true 4,
bM 128 126 true 0,
bM 129 126 true 13,
bO 130 126 true (.iaS 3 (aT 128) (aT 129)),
bN 131 126 true 3 130,
bM 132 126 true 0,
bM 133 126 true 1,
bO 134 126 true (.iaS 3 (aT 132) (aT 133)),
bN 135 126 true 3 134,
bO 136 126 true (.callv (aT 127) .pure [(aT 131), (aT 135)]),
bO 137 126 true (.bin .lss (aT 136) (.val (.int .i64 0))),
bO 138 126 true (.un .not (aT 137)),
aO 139 (.pick (aT 126) (aT 138) (.val (.bool false)))] [] [0, 1, 4, 12, 13, 139])
(.cond (aT 139)
(.skip)
(.ext 8)))
(.blk 9 (.reg [aM 140 13,
aO 141 (.bin .sub (aT 140) (.val (.int .i64 1))),
aM 13 141] [] [0, 1, 4, 12, 13])))))
(.seq
(.seq
(.reg [aM 142 12,
aM 143 13,
aO 144 (.bin .gtr (aT 142) (aT 143))] [] [0, 1, 4, 12, 13, 144])
(.cond (aT 144)
(.ext 4)
(.skip)))
(.seq
(.reg [aM 145 0,
aM 146 12,
aM 147 0,
aM 148 13,
aM 149 0,
aM 150 13,
aI 151 3 149 150,
aN 152 3 151,
aM 153 0,
aM 154 12,
aI 155 3 153 154,
aN 156 3 155,
aI 157 3 145 146,
aZ (.st 3 (aT 157) (aT 152)),
aI 158 3 147 148,
aZ (.st 3 (aT 158) (aT 156))] [] [0, 1, 4, 12, 13])
(.seq
(.reg [aM 159 12,
aO 160 (.bin .add (aT 159) (.val (.int .i64 1))),
aM 12 160] [] [0, 1, 4, 12, 13])
(.reg [aM 161 13,
aO 162 (.bin .sub (aT 161) (.val (.int .i64 1))),
aM 13 162] [] [0, 1, 4, 12, 13])))))))))
(.seq
(.reg [aM 163 0,
aM 164 13,
aM 165 0,
aM 166 1,
aM 167 0,
aM 168 1,
aI 169 3 167 168,
aN 170 3 169,
aM 171 0,
aM 172 13,
aI 173 3 171 172,
aN 174 3 173,
aI 175 3 163 164,
aZ (.st 3 (aT 175) (aT 170)),
aI 176 3 165 166,
aZ (.st 3 (aT 176) (aT 174))] [] [13])
(.seq
(.reg [aM 177 13,
aM 10 177,
aO 11 (.mv (.val (.bool false)))] [] [10, 11])
(.ret))))))))))))⟩
theorem pf179_ok : fnOk Tryz.prog 179 pf179 = true := by kernel_rfl

/-- hinterland/block.joinTile -/
def pf182 : PFn := ⟨41, 3, [], .seq
(.reg [aO 3 (.boxp 25 (aT 0))] [] [1, 2, 3])
(.seq
(.reg [aO 8 (.mv (.val (.int .i64 0)))] [] [1, 2, 3, 8])
(.blk 0 (.loop (.seq
(.reg [aO 9 (.bin .lss (aT 8) (.val (.int .i64 6)))] [] [1, 2, 3, 8, 9])
(.seq
(.cond (aT 9)
(.skip)
(.ext 0))
(.seq
(.blk 1 (.seq
(.reg [aM 10 8,
aM 6 10] [] [1, 2, 3, 6, 8])
(.seq
(.reg [aM 11 6,
aO 12 (.mv (.val (.int .i64 0)))] [] [1, 2, 3, 6, 8, 11, 12])
(.blk 2 (.loop (.seq
(.reg [aO 13 (.bin .lss (aT 12) (aT 11))] [] [1, 2, 3, 6, 8, 11, 12, 13])
(.seq
(.cond (aT 13)
(.skip)
(.ext 2))
(.seq
(.blk 3 (.seq
(.reg [aM 14 12,
aM 7 14] [] [1, 2, 3, 6, 7, 8, 11, 12])
(.seq
(.reg [aN 15 4 3,
aM 16 2,
aM 17 6,
aO 18 (.call 106 .pure [(aT 15), (aT 16), (aT 17)]),
aM 19 18,
bN 20 19 true 4 3,
bM 21 19 true 2,
bM 22 19 true 7,
bO 23 19 true (.call 106 .pure [(aT 20), (aT 21), (aT 22)]),
aO 24 (.pick (aT 19) (aT 23) (.val (.bool false))),
aM 25 24,
bM 26 25 true 6,
bM 27 25 true 7,
bO 28 25 true (.call 202 .pure [(aT 26), (aT 27)]),
bO 29 25 true (.un .not (aT 28)),
aO 30 (.pick (aT 25) (aT 29) (.val (.bool false)))] [] [1, 2, 3, 6, 7, 8, 11, 12, 30])
(.cond (aT 30)
(.reg [aM 31 1,
aM 32 2,
aM 33 6,
aO 34 (.call 204 .pure [(aT 32), (aT 33)]),
aM 35 2,
aM 36 7,
aO 37 (.call 204 .pure [(aT 35), (aT 36)]),
aO 38 (.call 203 .opn [(aT 31), (aT 34), (aT 37)])] [] [1, 2, 3, 6, 8, 11, 12])
(.skip)))))
(.reg [aO 39 (.bin .add (aT 12) (.val (.int .i64 1))),
aM 12 39] [] [1, 2, 3, 6, 8, 11, 12])))))))))
(.reg [aO 40 (.bin .add (aT 8) (.val (.int .i64 1))),
aM 8 40] [] [1, 2, 3, 8])))))))⟩
theorem pf182_ok : fnOk Tryz.prog 182 pf182 = true := by kernel_rfl

/-- hinterland/block.joinSide -/
def pf183 : PFn := ⟨72, 6, [], .seq
(.reg [aO 6 (.boxp 25 (aT 0))] [] [1, 2, 3, 4, 5, 6])
(.seq
(.reg [aM 15 1,
aO 16 (.mkf (.func 205) [(aT 15)] []),
aM 12 16] [] [2, 3, 4, 5, 6, 12])
(.seq
(.reg [aO 17 (.mv (.val (.int .i64 0)))] [] [2, 3, 4, 5, 6, 12, 17])
(.blk 0 (.loop (.seq
(.reg [aO 18 (.bin .lss (aT 17) (.val (.int .i64 6)))] [] [2, 3, 4, 5, 6, 12, 17, 18])
(.seq
(.cond (aT 18)
(.skip)
(.ext 0))
(.seq
(.blk 1 (.seq
(.reg [aM 19 17,
aM 13 19] [] [2, 3, 4, 5, 6, 12, 13, 17])
(.seq
(.seq
(.reg [aN 20 4 6,
aM 21 3,
aM 22 13,
aO 23 (.call 106 .pure [(aT 20), (aT 21), (aT 22)]),
aO 24 (.un .not (aT 23)),
aM 25 24,
bM 26 25 false 13,
bM 27 25 false 4,
bO 28 25 false (.call 107 .pure [(aT 26), (aT 27)]),
bO 29 25 false (.un .not (aT 28)),
aO 30 (.pick (aT 25) (.val (.bool true)) (aT 29)),
aM 31 30,
bM 32 31 false 12,
bM 33 31 false 3,
bM 34 31 false 13,
bM 35 31 false 4,
bO 36 31 false (.callv (aT 32) .pure [(aT 33), (aT 34), (aT 35)]),
aO 37 (.pick (aT 31) (.val (.bool true)) (aT 36))] [] [2, 3, 4, 5, 6, 12, 13, 17, 37])
(.cond (aT 37)
(.ext 1)
(.skip)))
(.seq
(.reg [aO 38 (.mv (.val (.int .i64 0)))] [] [2, 3, 4, 5, 6, 12, 13, 17, 38])
(.blk 2 (.loop (.seq
(.reg [aO 39 (.bin .lss (aT 38) (.val (.int .i64 6)))] [] [2, 3, 4, 5, 6, 12, 13, 17, 38, 39])
(.seq
(.cond (aT 39)
(.skip)
(.ext 2))
(.seq
(.blk 3 (.seq
(.reg [aM 40 38,
aM 14 40] [] [2, 3, 4, 5, 6, 12, 13, 14, 17, 38])
(.seq
(.reg [aN 41 4 6,
aM 42 5,
aM 43 14,
aO 44 (.call 106 .pure [(aT 41), (aT 42), (aT 43)]),
aM 45 44,
bM 46 45 true 14,
bM 47 45 true 4,
bO 48 45 true (.bin .add (aT 47) (.val (.int .i64 2))),
bO 49 45 true (.bin .rem (aT 48) (.val (.int .i64 4))),
bO 50 45 true (.call 107 .pure [(aT 46), (aT 49)]),
aO 51 (.pick (aT 45) (aT 50) (.val (.bool false))),
aM 52 51,
bM 53 52 true 12,
bM 54 52 true 5,
bM 55 52 true 14,
bM 56 52 true 4,
bO 57 52 true (.bin .add (aT 56) (.val (.int .i64 2))),
bO 58 52 true (.bin .rem (aT 57) (.val (.int .i64 4))),
bO 59 52 true (.callv (aT 53) .pure [(aT 54), (aT 55), (aT 58)]),
bO 60 52 true (.un .not (aT 59)),
aO 61 (.pick (aT 52) (aT 60) (.val (.bool false)))] [] [2, 3, 4, 5, 6, 12, 13, 14, 17, 38, 61])
(.cond (aT 61)
(.reg [aM 62 2,
aM 63 3,
aM 64 13,
aO 65 (.call 204 .pure [(aT 63), (aT 64)]),
aM 66 5,
aM 67 14,
aO 68 (.call 204 .pure [(aT 66), (aT 67)]),
aO 69 (.call 203 .opn [(aT 62), (aT 65), (aT 68)])] [] [2, 3, 4, 5, 6, 12, 13, 17, 38])
(.skip)))))
(.reg [aO 70 (.bin .add (aT 38) (.val (.int .i64 1))),
aM 38 70] [] [2, 3, 4, 5, 6, 12, 13, 17, 38]))))))))))
(.reg [aO 71 (.bin .add (aT 17) (.val (.int .i64 1))),
aM 17 71] [] [2, 3, 4, 5, 6, 12, 17]))))))))⟩
theorem pf183_ok : fnOk Tryz.prog 183 pf183 = true := by kernel_rfl

/-- hinterland/block.root -/
def pf184 : PFn := ⟨24, 2, [.tmp 4], .seq
(.reg [aO 4 (.mv (.val (.int .i64 0)))] [] [0, 1])
(.seq
(.seq
(.reg [aM 5 0,
aM 6 1,
aI 7 1 5 6,
aL 8 7,
aM 9 1,
aO 10 (.bin .neq (aT 8) (aT 9))] [] [0, 1, 10])
(.cond (aT 10)
(.reg [aM 11 0,
aM 12 1,
aM 13 0,
aM 14 0,
aM 15 1,
aI 16 1 14 15,
aL 17 16,
aO 18 (.call 184 .opn [(aT 13), (aT 17)]),
aI 19 1 11 12,
aZ (.st 1 (aT 19) (aT 18))] [] [0, 1])
(.skip)))
(.seq
(.reg [aM 20 0,
aM 21 1,
aI 22 1 20 21,
aL 23 22,
aM 4 23] [] [4])
(.ret)))⟩
theorem pf184_ok : fnOk Tryz.prog 184 pf184 = true := by kernel_rfl

/-- slices.insertionSortOrdered[int] -/
def pf185 : PFn := ⟨49, 3, [], .seq
(.reg [aM 8 1,
aO 9 (.bin .add (aT 8) (.val (.int .i64 1))),
aM 6 9] [] [0, 1, 2, 6])
(.blk 0 (.loop (.seq
(.seq
(.reg [aM 10 6,
aM 11 2,
aO 12 (.bin .lss (aT 10) (aT 11))] [] [0, 1, 2, 6, 12])
(.cond (aT 12)
(.skip)
(.ext 0)))
(.seq
(.blk 1 (.seq
(.reg [aM 15 6,
aM 7 15] [] [0, 1, 2, 6, 7])
(.blk 2 (.loop (.seq
(.seq
(.reg [aM 16 7,
aM 17 1,
aO 18 (.bin .gtr (aT 16) (aT 17)),
aM 19 18,
bM 20 19 true 0,
bM 21 19 true 7,
bO 22 19 true (.iaS 1 (aT 20) (aT 21)),
bL 23 19 true 22,
bM 24 19 true 0,
bM 25 19 true 7,
bO 26 19 true (.bin .sub (aT 25) (.val (.int .i64 1))),
bO 27 19 true (.iaS 1 (aT 24) (aT 26)),
bL 28 19 true 27,
bO 29 19 true (.call 191 .pure [(aT 23), (aT 28)]),
aO 30 (.pick (aT 19) (aT 29) (.val (.bool false)))] [] [0, 1, 2, 6, 7, 30])
(.cond (aT 30)
(.skip)
(.ext 2)))
(.seq
(.blk 3 (.reg [aM 33 0,
aM 34 7,
aM 35 0,
aM 36 7,
aO 37 (.bin .sub (aT 36) (.val (.int .i64 1))),
aM 38 0,
aM 39 7,
aO 40 (.bin .sub (aT 39) (.val (.int .i64 1))),
aI 41 1 38 40,
aL 42 41,
aM 43 0,
aM 44 7,
aI 45 1 43 44,
aL 46 45,
aI 47 1 33 34,
aZ (.st 1 (aT 47) (aT 42)),
aI 48 1 35 37,
aZ (.st 1 (aT 48) (aT 46))] [] [0, 1, 2, 6, 7]))
(.reg [aM 31 7,
aO 32 (.bin .sub (aT 31) (.val (.int .i64 1))),
aM 7 32] [] [0, 1, 2, 6, 7])))))))
(.reg [aM 13 6,
aO 14 (.bin .add (aT 13) (.val (.int .i64 1))),
aM 6 14] [] [0, 1, 2, 6])))))⟩
theorem pf185_ok : fnOk Tryz.prog 185 pf185 = true := by kernel_rfl

/-- slices.heapSortOrdered[int] -/
def pf186 : PFn := ⟨56, 3, [], .seq
(.reg [aM 11 1,
aM 6 11] [] [0, 1, 2, 6])
(.seq
(.reg [aO 7 (.mv (.val (.int .i64 0)))] [] [0, 1, 2, 6, 7])
(.seq
(.reg [aM 12 2,
aM 13 1,
aO 14 (.bin .sub (aT 12) (aT 13)),
aM 8 14] [] [0, 6, 7, 8])
(.seq
(.seq
(.reg [aM 15 8,
aO 16 (.bin .sub (aT 15) (.val (.int .i64 1))),
aO 17 (.bin .quo (aT 16) (.val (.int .i64 2))),
aM 9 17] [] [0, 6, 7, 8, 9])
(.blk 0 (.loop (.seq
(.seq
(.reg [aM 18 9,
aO 19 (.bin .geq (aT 18) (.val (.int .i64 0)))] [] [0, 6, 7, 8, 9, 19])
(.cond (aT 19)
(.skip)
(.ext 0)))
(.seq
(.blk 1 (.reg [aM 22 0,
aM 23 9,
aM 24 8,
aM 25 6,
aO 26 (.call 206 .opn [(aT 22), (aT 23), (aT 24), (aT 25)])] [] [0, 6, 7, 8, 9]))
(.reg [aM 20 9,
aO 21 (.bin .sub (aT 20) (.val (.int .i64 1))),
aM 9 21] [] [0, 6, 7, 8, 9]))))))
(.seq
(.reg [aM 27 8,
aO 28 (.bin .sub (aT 27) (.val (.int .i64 1))),
aM 10 28] [] [0, 6, 7, 10])
(.blk 2 (.loop (.seq
(.seq
(.reg [aM 29 10,
aO 30 (.bin .geq (aT 29) (.val (.int .i64 0)))] [] [0, 6, 7, 10, 30])
(.cond (aT 30)
(.skip)
(.ext 2)))
(.seq
(.blk 3 (.seq
(.reg [aM 33 0,
aM 34 6,
aM 35 0,
aM 36 6,
aM 37 10,
aO 38 (.bin .add (aT 36) (aT 37)),
aM 39 0,
aM 40 6,
aM 41 10,
aO 42 (.bin .add (aT 40) (aT 41)),
aI 43 1 39 42,
aL 44 43,
aM 45 0,
aM 46 6,
aI 47 1 45 46,
aL 48 47,
aI 49 1 33 34,
aZ (.st 1 (aT 49) (aT 44)),
aI 50 1 35 38,
aZ (.st 1 (aT 50) (aT 48))] [] [0, 6, 7, 10])
(.reg [aM 51 0,
aM 52 7,
aM 53 10,
aM 54 6,
aO 55 (.call 206 .opn [(aT 51), (aT 52), (aT 53), (aT 54)])] [] [0, 6, 7, 10])))
(.reg [aM 31 10,
aO 32 (.bin .sub (aT 31) (.val (.int .i64 1))),
aM 10 32] [] [0, 6, 7, 10])))))))))⟩
theorem pf186_ok : fnOk Tryz.prog 186 pf186 = true := by kernel_rfl

/-- slices.breakPatternsOrdered[int] -/
def pf187 : PFn := ⟨65, 3, [], .seq
(.reg [aM 11 2,
aM 12 1,
aO 13 (.bin .sub (aT 11) (aT 12)),
aM 6 13] [] [0, 1, 6])
(.seq
(.reg [aM 14 6,
aO 15 (.bin .geq (aT 14) (.val (.int .i64 8)))] [] [0, 1, 6, 15])
(.cond (aT 15)
(.seq
(.reg [aM 16 6,
aO 17 (.conv .u64 (aT 16)),
aO 7 (.zer 227 (.int .u64 0)),
aZ (.st 1 (aT 7) (aT 17))] [] [0, 1, 6, 7])
(.seq
(.reg [aM 18 6,
aO 19 (.call 198 .pure [(aT 18)]),
aM 8 19] [] [0, 1, 6, 7, 8])
(.seq
(.reg [aM 20 1,
aM 21 6,
aO 22 (.bin .quo (aT 21) (.val (.int .i64 4))),
aO 23 (.bin .mul (aT 22) (.val (.int .i64 2))),
aO 24 (.bin .add (aT 20) (aT 23)),
aO 25 (.bin .sub (aT 24) (.val (.int .i64 1))),
aM 9 25] [] [0, 1, 6, 7, 8, 9])
(.blk 0 (.loop (.seq
(.seq
(.reg [aM 26 9,
aM 27 1,
aM 28 6,
aO 29 (.bin .quo (aT 28) (.val (.int .i64 4))),
aO 30 (.bin .mul (aT 29) (.val (.int .i64 2))),
aO 31 (.bin .add (aT 27) (aT 30)),
aO 32 (.bin .add (aT 31) (.val (.int .i64 1))),
aO 33 (.bin .leq (aT 26) (aT 32))] [] [0, 1, 6, 7, 8, 9, 33])
(.cond (aT 33)
(.skip)
(.ext 0)))
(.seq
(.blk 1 (.seq
(.reg [aO 36 (.call 199 .opn [(aT 7)]),
aM 37 8,
aO 38 (.bin .sub (aT 37) (.val (.int .u64 1))),
aO 39 (.bin .and (aT 36) (aT 38)),
aO 40 (.conv .i64 (aT 39)),
aM 10 40] [] [0, 1, 6, 7, 8, 9, 10])
(.seq
(.seq
(.reg [aM 41 10,
aM 42 6,
aO 43 (.bin .geq (aT 41) (aT 42))] [] [0, 1, 6, 7, 8, 9, 10, 43])
(.cond (aT 43)
(.reg [aM 44 10,
aM 45 6,
aO 46 (.bin .sub (aT 44) (aT 45)),
aM 10 46] [] [0, 1, 6, 7, 8, 9, 10])
(.skip)))
(.reg [aM 47 0,
aM 48 9,
aM 49 0,
aM 50 1,
aM 51 10,
aO 52 (.bin .add (aT 50) (aT 51)),
aM 53 0,
aM 54 1,
aM 55 10,
aO 56 (.bin .add (aT 54) (aT 55)),
aI 57 1 53 56,
aL 58 57,
aM 59 0,
aM 60 9,
aI 61 1 59 60,
aL 62 61,
aI 63 1 47 48,
aZ (.st 1 (aT 63) (aT 58)),
aI 64 1 49 52,
aZ (.st 1 (aT 64) (aT 62))] [] [0, 1, 6, 7, 8, 9]))))
(.reg [aM 34 9,
aO 35 (.bin .add (aT 34) (.val (.int .i64 1))),
aM 9 35] [] [0, 1, 6, 7, 8, 9]))))))))
(.skip)))⟩
theorem pf187_ok : fnOk Tryz.prog 187 pf187 = true := by kernel_rfl

/-- slices.choosePivotOrdered[int] -/
def pf188 : PFn := ⟨57, 3, [.tmp 6, .tmp 7], .seq
(.reg [aO 6 (.mv (.val (.int .i64 0))),
aO 7 (.mv (.val (.int .i64 0)))] [] [0, 1, 2])
(.seq
(.reg [aM 13 2,
aM 14 1,
aO 15 (.bin .sub (aT 13) (aT 14)),
aM 8 15] [] [0, 1, 8])
(.seq
(.reg [aO 9 (.zer 3 (.int .i64 0))] [] [0, 1, 8, 9])
(.seq
(.reg [aM 16 1,
aM 17 8,
aO 18 (.bin .quo (aT 17) (.val (.int .i64 4))),
aO 19 (.bin .mul (aT 18) (.val (.int .i64 1))),
aO 20 (.bin .add (aT 16) (aT 19)),
aM 10 20] [] [0, 1, 8, 9, 10])
(.seq
(.reg [aM 21 1,
aM 22 8,
aO 23 (.bin .quo (aT 22) (.val (.int .i64 4))),
aO 24 (.bin .mul (aT 23) (.val (.int .i64 2))),
aO 25 (.bin .add (aT 21) (aT 24)),
aM 11 25] [] [0, 1, 8, 9, 10, 11])
(.seq
(.reg [aM 26 1,
aM 27 8,
aO 28 (.bin .quo (aT 27) (.val (.int .i64 4))),
aO 29 (.bin .mul (aT 28) (.val (.int .i64 3))),
aO 30 (.bin .add (aT 26) (aT 29)),
aM 12 30] [] [0, 8, 9, 10, 11, 12])
(.seq
(.seq
(.reg [aM 31 8,
aO 32 (.bin .geq (aT 31) (.val (.int .i64 8)))] [] [0, 8, 9, 10, 11, 12, 32])
(.cond (aT 32)
(.seq
(.seq
(.reg [aM 33 8,
aO 34 (.bin .geq (aT 33) (.val (.int .i64 50)))] [] [0, 9, 10, 11, 12, 34])
(.cond (aT 34)
(.seq
(.reg [aM 35 0,
aM 36 10,
aO 37 (.call 207 .pure [(aT 35), (aT 36), (aT 9)]),
aM 10 37] [] [0, 9, 10, 11, 12])
(.seq
(.reg [aM 38 0,
aM 39 11,
aO 40 (.call 207 .pure [(aT 38), (aT 39), (aT 9)]),
aM 11 40] [] [0, 9, 10, 11, 12])
(.reg [aM 41 0,
aM 42 12,
aO 43 (.call 207 .pure [(aT 41), (aT 42), (aT 9)]),
aM 12 43] [] [0, 9, 10, 11, 12])))
(.skip)))
(.reg [aM 44 0,
aM 45 10,
aM 46 11,
aM 47 12,
aO 48 (.call 208 .pure [(aT 44), (aT 45), (aT 46), (aT 47), (aT 9)]),
aM 11 48] [] [9, 11]))
(.skip)))
(.seq
(.reg [aL 49 9] [] [11, 49])
(.blk 0 (.seq
(.reg [aO 52 (.bin .eql (aT 49) (.val (.int .i64 0))),
aM 51 52] [] [11, 49, 51])
(.cond (aT 51)
(.seq
(.reg [aM 53 11,
aM 6 53,
aO 7 (.mv (.val (.int .i64 1)))] [] [6, 7])
(.ret))
(.seq
(.reg [aO 55 (.bin .eql (aT 49) (.val (.int .i64 12))),
aM 54 55] [] [11, 54])
(.cond (aT 54)
(.seq
(.reg [aM 56 11,
aM 6 56,
aO 7 (.mv (.val (.int .i64 2)))] [] [6, 7])
(.ret))
(.seq
(.reg [aM 50 11,
aM 6 50,
aO 7 (.mv (.val (.int .i64 0)))] [] [6, 7])
(.ret))))))))))))))⟩
theorem pf188_ok : fnOk Tryz.prog 188 pf188 = true := by kernel_rfl

/-- slices.reverseRangeOrdered[int] -/
def pf189 : PFn := ⟨32, 3, [], .seq
(.reg [aM 8 1,
aM 6 8] [] [0, 2, 6])
(.seq
(.reg [aM 9 2,
aO 10 (.bin .sub (aT 9) (.val (.int .i64 1))),
aM 7 10] [] [0, 6, 7])
(.blk 0 (.loop (.seq
(.seq
(.reg [aM 11 6,
aM 12 7,
aO 13 (.bin .lss (aT 11) (aT 12))] [] [0, 6, 7, 13])
(.cond (aT 13)
(.skip)
(.ext 0)))
(.blk 1 (.seq
(.reg [aM 14 0,
aM 15 6,
aM 16 0,
aM 17 7,
aM 18 0,
aM 19 7,
aI 20 1 18 19,
aL 21 20,
aM 22 0,
aM 23 6,
aI 24 1 22 23,
aL 25 24,
aI 26 1 14 15,
aZ (.st 1 (aT 26) (aT 21)),
aI 27 1 16 17,
aZ (.st 1 (aT 27) (aT 25))] [] [0, 6, 7])
(.seq
(.reg [aM 28 6,
aO 29 (.bin .add (aT 28) (.val (.int .i64 1))),
aM 6 29] [] [0, 6, 7])
(.reg [aM 30 7,
aO 31 (.bin .sub (aT 30) (.val (.int .i64 1))),
aM 7 31] [] [0, 6, 7]))))))))⟩
theorem pf189_ok : fnOk Tryz.prog 189 pf189 = true := by kernel_rfl

/-- slices.partialInsertionSortOrdered[int] -/
def pf190 : PFn := ⟨133, 3, [.tmp 6], .seq
(.reg [aO 6 (.mv (.val (.bool false)))] [] [0, 1, 2])
(.seq
(.reg [aM 11 1,
aO 12 (.bin .add (aT 11) (.val (.int .i64 1))),
aM 7 12] [] [0, 1, 2, 7])
(.seq
(.seq
(.reg [aO 8 (.mv (.val (.int .i64 0)))] [] [0, 1, 2, 7, 8])
(.blk 0 (.loop (.seq
(.seq
(.reg [aM 13 8,
aO 14 (.bin .lss (aT 13) (.val (.int .i64 5)))] [] [0, 1, 2, 7, 8, 14])
(.cond (aT 14)
(.skip)
(.ext 0)))
(.seq
(.blk 1 (.seq
(.blk 2 (.loop (.seq
(.seq
(.reg [aM 17 7,
aM 18 2,
aO 19 (.bin .lss (aT 17) (aT 18)),
aM 20 19,
bM 21 20 true 0,
bM 22 20 true 7,
bO 23 20 true (.iaS 1 (aT 21) (aT 22)),
bL 24 20 true 23,
bM 25 20 true 0,
bM 26 20 true 7,
bO 27 20 true (.bin .sub (aT 26) (.val (.int .i64 1))),
bO 28 20 true (.iaS 1 (aT 25) (aT 27)),
bL 29 20 true 28,
bO 30 20 true (.call 191 .pure [(aT 24), (aT 29)]),
bO 31 20 true (.un .not (aT 30)),
aO 32 (.pick (aT 20) (aT 31) (.val (.bool false)))] [] [0, 1, 2, 7, 8, 32])
(.cond (aT 32)
(.skip)
(.ext 2)))
(.blk 3 (.reg [aM 33 7,
aO 34 (.bin .add (aT 33) (.val (.int .i64 1))),
aM 7 34] [] [0, 1, 2, 7, 8])))))
(.seq
(.seq
(.reg [aM 35 7,
aM 36 2,
aO 37 (.bin .eql (aT 35) (aT 36))] [] [0, 1, 2, 7, 8, 37])
(.cond (aT 37)
(.seq
(.reg [aO 6 (.mv (.val (.bool true)))] [] [6])
(.ret))
(.skip)))
(.seq
(.seq
(.reg [aM 38 2,
aM 39 1,
aO 40 (.bin .sub (aT 38) (aT 39)),
aO 41 (.bin .lss (aT 40) (.val (.int .i64 50)))] [] [0, 1, 2, 7, 8, 41])
(.cond (aT 41)
(.seq
(.reg [aO 6 (.mv (.val (.bool false)))] [] [6])
(.ret))
(.skip)))
(.seq
(.reg [aM 42 0,
aM 43 7,
aM 44 0,
aM 45 7,
aO 46 (.bin .sub (aT 45) (.val (.int .i64 1))),
aM 47 0,
aM 48 7,
aO 49 (.bin .sub (aT 48) (.val (.int .i64 1))),
aI 50 1 47 49,
aL 51 50,
aM 52 0,
aM 53 7,
aI 54 1 52 53,
aL 55 54,
aI 56 1 42 43,
aZ (.st 1 (aT 56) (aT 51)),
aI 57 1 44 46,
aZ (.st 1 (aT 57) (aT 55))] [] [0, 1, 2, 7, 8])
(.seq
(.seq
(.reg [aM 58 7,
aM 59 1,
aO 60 (.bin .sub (aT 58) (aT 59)),
aO 61 (.bin .geq (aT 60) (.val (.int .i64 2)))] [] [0, 1, 2, 7, 8, 61])
(.cond (aT 61)
(.seq
(.reg [aM 62 7,
aO 63 (.bin .sub (aT 62) (.val (.int .i64 1))),
aM 9 63] [] [0, 1, 2, 7, 8, 9])
(.blk 4 (.loop (.seq
(.seq
(.reg [aM 64 9,
aO 65 (.bin .geq (aT 64) (.val (.int .i64 1)))] [] [0, 1, 2, 7, 8, 9, 65])
(.cond (aT 65)
(.skip)
(.ext 4)))
(.seq
(.blk 5 (.seq
(.seq
(.reg [aM 68 0,
aM 69 9,
aI 70 1 68 69,
aL 71 70,
aM 72 0,
aM 73 9,
aO 74 (.bin .sub (aT 73) (.val (.int .i64 1))),
aI 75 1 72 74,
aL 76 75,
aO 77 (.call 191 .pure [(aT 71), (aT 76)]),
aO 78 (.un .not (aT 77))] [] [0, 1, 2, 7, 8, 9, 78])
(.cond (aT 78)
(.ext 4)
(.skip)))
(.reg [aM 79 0,
aM 80 9,
aM 81 0,
aM 82 9,
aO 83 (.bin .sub (aT 82) (.val (.int .i64 1))),
aM 84 0,
aM 85 9,
aO 86 (.bin .sub (aT 85) (.val (.int .i64 1))),
aI 87 1 84 86,
aL 88 87,
aM 89 0,
aM 90 9,
aI 91 1 89 90,
aL 92 91,
aI 93 1 79 80,
aZ (.st 1 (aT 93) (aT 88)),
aI 94 1 81 83,
aZ (.st 1 (aT 94) (aT 92))] [] [0, 1, 2, 7, 8, 9])))
(.reg [aM 66 9,
aO 67 (.bin .sub (aT 66) (.val (.int .i64 1))),
aM 9 67] [] [0, 1, 2, 7, 8, 9]))))))
(.skip)))
(.seq
(.reg [aM 95 2,
aM 96 7,
aO 97 (.bin .sub (aT 95) (aT 96)),
aO 98 (.bin .geq (aT 97) (.val (.int .i64 2)))] [] [0, 1, 2, 7, 8, 98])
(.cond (aT 98)
(.seq
(.reg [aM 99 7,
aO 100 (.bin .add (aT 99) (.val (.int .i64 1))),
aM 10 100] [] [0, 1, 2, 7, 8, 10])
(.blk 6 (.loop (.seq
(.seq
(.reg [aM 101 10,
aM 102 2,
aO 103 (.bin .lss (aT 101) (aT 102))] [] [0, 1, 2, 7, 8, 10, 103])
(.cond (aT 103)
(.skip)
(.ext 6)))
(.seq
(.blk 7 (.seq
(.seq
(.reg [aM 106 0,
aM 107 10,
aI 108 1 106 107,
aL 109 108,
aM 110 0,
aM 111 10,
aO 112 (.bin .sub (aT 111) (.val (.int .i64 1))),
aI 113 1 110 112,
aL 114 113,
aO 115 (.call 191 .pure [(aT 109), (aT 114)]),
aO 116 (.un .not (aT 115))] [] [0, 1, 2, 7, 8, 10, 116])
(.cond (aT 116)
(.ext 6)
(.skip)))
(.reg [aM 117 0,
aM 118 10,
aM 119 0,
aM 120 10,
aO 121 (.bin .sub (aT 120) (.val (.int .i64 1))),
aM 122 0,
aM 123 10,
aO 124 (.bin .sub (aT 123) (.val (.int .i64 1))),
aI 125 1 122 124,
aL 126 125,
aM 127 0,
aM 128 10,
aI 129 1 127 128,
aL 130 129,
aI 131 1 117 118,
aZ (.st 1 (aT 131) (aT 126)),
aI 132 1 119 121,
aZ (.st 1 (aT 132) (aT 130))] [] [0, 1, 2, 7, 8, 10])))
(.reg [aM 104 10,
aO 105 (.bin .add (aT 104) (.val (.int .i64 1))),
aM 10 105] [] [0, 1, 2, 7, 8, 10]))))))
(.skip)))))))))
(.reg [aM 15 8,
aO 16 (.bin .add (aT 15) (.val (.int .i64 1))),
aM 8 16] [] [0, 1, 2, 7, 8]))))))
(.seq
(.reg [aO 6 (.mv (.val (.bool false)))] [] [6])
(.ret))))⟩
theorem pf190_ok : fnOk Tryz.prog 190 pf190 = true := by kernel_rfl

/-- cmp.Less[int] -/
def pf191 : PFn := ⟨17, 2, [.tmp 4], .seq
(.reg [aO 4 (.mv (.val (.bool false)))] [] [0, 1])
(.seq
(.reg [aM 5 0,
aO 6 (.call 150 .pure [(aT 5)]),
aM 7 6,
bM 8 7 true 1,
bO 9 7 true (.call 150 .pure [(aT 8)]),
bO 10 7 true (.un .not (aT 9)),
aO 11 (.pick (aT 7) (aT 10) (.val (.bool false))),
aM 12 11,
bM 13 12 false 0,
bM 14 12 false 1,
bO 15 12 false (.bin .lss (aT 13) (aT 14)),
aO 16 (.pick (aT 12) (.val (.bool true)) (aT 15)),
aM 4 16] [] [4])
(.ret))⟩
theorem pf191_ok : fnOk Tryz.prog 191 pf191 = true := by kernel_rfl

/-- slices.partitionEqualOrdered[int] -/
def pf192 : PFn := ⟨84, 4, [.tmp 8], .seq
(.reg [aO 8 (.mv (.val (.int .i64 0)))] [] [0, 1, 2, 3])
(.seq
(.reg [aM 11 0,
aM 12 1,
aM 13 0,
aM 14 3,
aM 15 0,
aM 16 3,
aI 17 1 15 16,
aL 18 17,
aM 19 0,
aM 20 1,
aI 21 1 19 20,
aL 22 21,
aI 23 1 11 12,
aZ (.st 1 (aT 23) (aT 18)),
aI 24 1 13 14,
aZ (.st 1 (aT 24) (aT 22))] [] [0, 1, 2])
(.seq
(.reg [aM 25 1,
aO 26 (.bin .add (aT 25) (.val (.int .i64 1))),
aM 27 2,
aO 28 (.bin .sub (aT 27) (.val (.int .i64 1))),
aM 9 26,
aM 10 28] [] [0, 1, 9, 10])
(.seq
(.blk 0 (.loop (.blk 1 (.seq
(.blk 2 (.loop (.seq
(.seq
(.reg [aM 29 9,
aM 30 10,
aO 31 (.bin .leq (aT 29) (aT 30)),
aM 32 31,
bM 33 32 true 0,
bM 34 32 true 1,
bO 35 32 true (.iaS 1 (aT 33) (aT 34)),
bL 36 32 true 35,
bM 37 32 true 0,
bM 38 32 true 9,
bO 39 32 true (.iaS 1 (aT 37) (aT 38)),
bL 40 32 true 39,
bO 41 32 true (.call 191 .pure [(aT 36), (aT 40)]),
bO 42 32 true (.un .not (aT 41)),
aO 43 (.pick (aT 32) (aT 42) (.val (.bool false)))] [] [0, 1, 9, 10, 43])
(.cond (aT 43)
(.skip)
(.ext 2)))
(.blk 3 (.reg [aM 44 9,
aO 45 (.bin .add (aT 44) (.val (.int .i64 1))),
aM 9 45] [] [0, 1, 9, 10])))))
(.seq
(.blk 4 (.loop (.seq
(.seq
(.reg [aM 46 9,
aM 47 10,
aO 48 (.bin .leq (aT 46) (aT 47)),
aM 49 48,
bM 50 49 true 0,
bM 51 49 true 1,
bO 52 49 true (.iaS 1 (aT 50) (aT 51)),
bL 53 49 true 52,
bM 54 49 true 0,
bM 55 49 true 10,
bO 56 49 true (.iaS 1 (aT 54) (aT 55)),
bL 57 49 true 56,
bO 58 49 true (.call 191 .pure [(aT 53), (aT 57)]),
aO 59 (.pick (aT 49) (aT 58) (.val (.bool false)))] [] [0, 1, 9, 10, 59])
(.cond (aT 59)
(.skip)
(.ext 4)))
(.blk 5 (.reg [aM 60 10,
aO 61 (.bin .sub (aT 60) (.val (.int .i64 1))),
aM 10 61] [] [0, 1, 9, 10])))))
(.seq
(.seq
(.reg [aM 62 9,
aM 63 10,
aO 64 (.bin .gtr (aT 62) (aT 63))] [] [0, 1, 9, 10, 64])
(.cond (aT 64)
(.ext 0)
(.skip)))
(.seq
(.reg [aM 65 0,
aM 66 9,
aM 67 0,
aM 68 10,
aM 69 0,
aM 70 10,
aI 71 1 69 70,
aL 72 71,
aM 73 0,
aM 74 9,
aI 75 1 73 74,
aL 76 75,
aI 77 1 65 66,
aZ (.st 1 (aT 77) (aT 72)),
aI 78 1 67 68,
aZ (.st 1 (aT 78) (aT 76))] [] [0, 1, 9, 10])
(.seq
(.reg [aM 79 9,
aO 80 (.bin .add (aT 79) (.val (.int .i64 1))),
aM 9 80] [] [0, 1, 9, 10])
(.reg [aM 81 10,
aO 82 (.bin .sub (aT 81) (.val (.int .i64 1))),
aM 10 82] [] [0, 1, 9, 10])))))))))
(.seq
(.reg [aM 83 9,
aM 8 83] [] [8])
(.ret)))))⟩
theorem pf192_ok : fnOk Tryz.prog 192 pf192 = true := by kernel_rfl

/-- slices.partitionOrdered[int] -/
def pf193 : PFn := ⟨168, 4, [.tmp 8, .tmp 9], .seq
(.reg [aO 8 (.mv (.val (.int .i64 0))),
aO 9 (.mv (.val (.bool false)))] [] [0, 1, 2, 3])
(.seq
(.reg [aM 12 0,
aM 13 1,
aM 14 0,
aM 15 3,
aM 16 0,
aM 17 3,
aI 18 1 16 17,
aL 19 18,
aM 20 0,
aM 21 1,
aI 22 1 20 21,
aL 23 22,
aI 24 1 12 13,
aZ (.st 1 (aT 24) (aT 19)),
aI 25 1 14 15,
aZ (.st 1 (aT 25) (aT 23))] [] [0, 1, 2])
(.seq
(.reg [aM 26 1,
aO 27 (.bin .add (aT 26) (.val (.int .i64 1))),
aM 28 2,
aO 29 (.bin .sub (aT 28) (.val (.int .i64 1))),
aM 10 27,
aM 11 29] [] [0, 1, 10, 11])
(.seq
(.blk 0 (.loop (.seq
(.seq
(.reg [aM 30 10,
aM 31 11,
aO 32 (.bin .leq (aT 30) (aT 31)),
aM 33 32,
bM 34 33 true 0,
bM 35 33 true 10,
bO 36 33 true (.iaS 1 (aT 34) (aT 35)),
bL 37 33 true 36,
bM 38 33 true 0,
bM 39 33 true 1,
bO 40 33 true (.iaS 1 (aT 38) (aT 39)),
bL 41 33 true 40,
bO 42 33 true (.call 191 .pure [(aT 37), (aT 41)]),
aO 43 (.pick (aT 33) (aT 42) (.val (.bool false)))] [] [0, 1, 10, 11, 43])
(.cond (aT 43)
(.skip)
(.ext 0)))
(.blk 1 (.reg [aM 44 10,
aO 45 (.bin .add (aT 44) (.val (.int .i64 1))),
aM 10 45] [] [0, 1, 10, 11])))))
(.seq
(.blk 2 (.loop (.seq
(.seq
(.reg [aM 46 10,
aM 47 11,
aO 48 (.bin .leq (aT 46) (aT 47)),
aM 49 48,
bM 50 49 true 0,
bM 51 49 true 11,
bO 52 49 true (.iaS 1 (aT 50) (aT 51)),
bL 53 49 true 52,
bM 54 49 true 0,
bM 55 49 true 1,
bO 56 49 true (.iaS 1 (aT 54) (aT 55)),
bL 57 49 true 56,
bO 58 49 true (.call 191 .pure [(aT 53), (aT 57)]),
bO 59 49 true (.un .not (aT 58)),
aO 60 (.pick (aT 49) (aT 59) (.val (.bool false)))] [] [0, 1, 10, 11, 60])
(.cond (aT 60)
(.skip)
(.ext 2)))
(.blk 3 (.reg [aM 61 11,
aO 62 (.bin .sub (aT 61) (.val (.int .i64 1))),
aM 11 62] [] [0, 1, 10, 11])))))
(.seq
(.seq
(.reg [aM 63 10,
aM 64 11,
aO 65 (.bin .gtr (aT 63) (aT 64))] [] [0, 1, 10, 11, 65])
(.cond (aT 65)
(.seq
(.reg [aM 66 0,
aM 67 11,
aM 68 0,
aM 69 1,
aM 70 0,
aM 71 1,
aI 72 1 70 71,
aL 73 72,
aM 74 0,
aM 75 11,
aI 76 1 74 75,
aL 77 76,
aI 78 1 66 67,
aZ (.st 1 (aT 78) (aT 73)),
aI 79 1 68 69,
aZ (.st 1 (aT 79) (aT 77))] [] [11])
(.seq
(.reg [aM 80 11,
aM 8 80,
aO 9 (.mv (.val (.bool true)))] [] [8, 9])
(.ret)))
(.skip)))
(.seq
(.reg [aM 81 0,
aM 82 10,
aM 83 0,
aM 84 11,
aM 85 0,
aM 86 11,
aI 87 1 85 86,
aL 88 87,
aM 89 0,
aM 90 10,
aI 91 1 89 90,
aL 92 91,
aI 93 1 81 82,
aZ (.st 1 (aT 93) (aT 88)),
aI 94 1 83 84,
aZ (.st 1 (aT 94) (aT 92))] [] [0, 1, 10, 11])
(.seq
(.reg [aM 95 10,
aO 96 (.bin .add (aT 95) (.val (.int .i64 1))),
aM 10 96] [] [0, 1, 10, 11])
(.seq
(.reg [aM 97 11,
aO 98 (.bin .sub (aT 97) (.val (.int .i64 1))),
aM 11 98] [] [0, 1, 10, 11])
(.seq
(.blk 4 (.loop (.blk 5 (.seq
(.blk 6 (.loop (.seq
(.seq
(.reg [aM 99 10,
aM 100 11,
aO 101 (.bin .leq (aT 99) (aT 100)),
aM 102 101,
bM 103 102 true 0,
bM 104 102 true 10,
bO 105 102 true (.iaS 1 (aT 103) (aT 104)),
bL 106 102 true 105,
bM 107 102 true 0,
bM 108 102 true 1,
bO 109 102 true (.iaS 1 (aT 107) (aT 108)),
bL 110 102 true 109,
bO 111 102 true (.call 191 .pure [(aT 106), (aT 110)]),
aO 112 (.pick (aT 102) (aT 111) (.val (.bool false)))] [] [0, 1, 10, 11, 112])
(.cond (aT 112)
(.skip)
(.ext 6)))
(.blk 7 (.reg [aM 113 10,
aO 114 (.bin .add (aT 113) (.val (.int .i64 1))),
aM 10 114] [] [0, 1, 10, 11])))))
(.seq
(.blk 8 (.loop (.seq
(.seq
(.reg [aM 115 10,
aM 116 11,
aO 117 (.bin .leq (aT 115) (aT 116)),
aM 118 117,
bM 119 118 true 0,
bM 120 118 true 11,
bO 121 118 true (.iaS 1 (aT 119) (aT 120)),
bL 122 118 true 121,
bM 123 118 true 0,
bM 124 118 true 1,
bO 125 118 true (.iaS 1 (aT 123) (aT 124)),
bL 126 118 true 125,
bO 127 118 true (.call 191 .pure [(aT 122), (aT 126)]),
bO 128 118 true (.un .not (aT 127)),
aO 129 (.pick (aT 118) (aT 128) (.val (.bool false)))] [] [0, 1, 10, 11, 129])
(.cond (aT 129)
(.skip)
(.ext 8)))
(.blk 9 (.reg [aM 130 11,
aO 131 (.bin .sub (aT 130) (.val (.int .i64 1))),
aM 11 131] [] [0, 1, 10, 11])))))
(.seq
(.seq
(.reg [aM 132 10,
aM 133 11,
aO 134 (.bin .gtr (aT 132) (aT 133))] [] [0, 1, 10, 11, 134])
(.cond (aT 134)
(.ext 4)
(.skip)))
(.seq
(.reg [aM 135 0,
aM 136 10,
aM 137 0,
aM 138 11,
aM 139 0,
aM 140 11,
aI 141 1 139 140,
aL 142 141,
aM 143 0,
aM 144 10,
aI 145 1 143 144,
aL 146 145,
aI 147 1 135 136,
aZ (.st 1 (aT 147) (aT 142)),
aI 148 1 137 138,
aZ (.st 1 (aT 148) (aT 146))] [] [0, 1, 10, 11])
(.seq
(.reg [aM 149 10,
aO 150 (.bin .add (aT 149) (.val (.int .i64 1))),
aM 10 150] [] [0, 1, 10, 11])
(.reg [aM 151 11,
aO 152 (.bin .sub (aT 151) (.val (.int .i64 1))),
aM 11 152] [] [0, 1, 10, 11])))))))))
(.seq
(.reg [aM 153 0,
aM 154 11,
aM 155 0,
aM 156 1,
aM 157 0,
aM 158 1,
aI 159 1 157 158,
aL 160 159,
aM 161 0,
aM 162 11,
aI 163 1 161 162,
aL 164 163,
aI 165 1 153 154,
aZ (.st 1 (aT 165) (aT 160)),
aI 166 1 155 156,
aZ (.st 1 (aT 166) (aT 164))] [] [11])
(.seq
(.reg [aM 167 11,
aM 8 167,
aO 9 (.mv (.val (.bool false)))] [] [8, 9])
(.ret))))))))))))⟩
theorem pf193_ok : fnOk Tryz.prog 193 pf193 = true := by kernel_rfl

/-- hinterland/block.beyond -/
def pf194 : PFn := ⟨30, 2, [.tmp 4], .seq
(.reg [aO 4 (.mv (.val (.list .nil 1 [])))] [] [0, 1])
(.seq
(.reg [aO 5 (.nacc 3 1)] [] [0, 1, 5])
(.seq
(.seq
(.reg [aM 8 1,
aO 9 (.len (aT 8)),
aO 10 (.mv (.val (.int .i64 0)))] [] [0, 5, 8, 9, 10])
(.blk 0 (.loop (.trim (.seq
(.reg [aO 11 (.bin .lss (aT 10) (aT 9))] [] [0, 5, 8, 9, 10, 11])
(.seq
(.cond (aT 11)
(.skip)
(.ext 0))
(.seq
(.blk 1 (.seq
(.reg [aI 12 3 8 10,
aN 13 3 12,
aO 7 (.zer 54 (.agg [(.int .i64 0), (.int .i64 0), (.int .i64 0)])),
aZ (.st 3 (aT 7) (aT 13))] [] [0, 5, 7, 8, 9, 10])
(.reg [aM 14 5,
aM 15 0,
aF 16 0 7,
aL 17 16,
aF 18 1 7,
aL 19 18,
aO 20 (.call 204 .pure [(aT 17), (aT 19)]),
aI 21 1 15 20,
aL 22 21,
aO 23 (.bsl 1 1 [(.int .i64 0)] [(0, 1, (aT 22))]),
aO 24 (.app 3 1 8 (aT 14) (aT 23)),
aM 5 24] [] [0, 5, 8, 9, 10])))
(.reg [aO 25 (.bin .add (aT 10) (.val (.int .i64 1))),
aM 10 25] [] [0, 5, 8, 9, 10]))))))))
(.seq
(.reg [aM 26 5,
aO 27 (.call 146 .opn [(aT 26)])] [] [5])
(.seq
(.reg [aM 28 5,
aO 29 (.call 147 .opn [(aT 28)]),
aM 4 29] [] [4])
(.ret)))))⟩
theorem pf194_ok : fnOk Tryz.prog 194 pf194 = true := by kernel_rfl

/-- hinterland/block.leaves -/
def pf195 : PFn := ⟨55, 5, [.tmp 10], .seq
(.reg [aO 10 (.mv (.val (.bool false)))] [] [0, 1, 2, 3, 4])
(.seq
(.reg [aM 13 0,
aM 14 2,
aI 15 4 13 14,
aN 16 4 15,
aM 17 0,
aM 18 3,
aI 19 4 17 18,
aN 20 4 19,
aO 11 (.zer 75 (.agg [(.int .i64 0), (.int .i64 0), (.int .i64 0), (.int .i64 0)])),
aO 12 (.zer 75 (.agg [(.int .i64 0), (.int .i64 0), (.int .i64 0), (.int .i64 0)])),
aZ (.st 4 (aT 11) (aT 16)),
aZ (.st 4 (aT 12) (aT 20))] [(3, 0), (7, 0), (7, 10), (7, 11)] [1, 4, 11, 12])
(.seq
(.reg [aF 21 3 12,
aL 22 21,
aO 23 (.bin .eql (aT 22) (.val (.int .i64 2))),
aM 24 23,
bF 25 24 false 3 12,
bL 26 24 false 25,
bO 27 24 false (.bin .eql (aT 26) (.val (.int .i64 3))),
aO 28 (.pick (aT 24) (.val (.bool true)) (aT 27)),
aM 29 28,
bM 30 29 true 1,
bF 31 29 true 0 12,
bL 32 29 true 31,
bF 33 29 true 1 12,
bL 34 29 true 33,
bO 35 29 true (.call 204 .pure [(aT 32), (aT 34)]),
bO 36 29 true (.iaS 1 (aT 30) (aT 35)),
bL 37 29 true 36,
bM 38 29 true 4,
bO 39 29 true (.bin .eql (aT 37) (aT 38)),
aO 40 (.pick (aT 29) (aT 39) (.val (.bool false))),
aM 41 40,
bF 42 41 true 0 12,
bL 43 41 true 42,
bF 44 41 true 0 11,
bL 45 41 true 44,
bO 46 41 true (.bin .neq (aT 43) (aT 45)),
bM 47 41 true 46,
bF 48 47 false 1 12,
bL 49 47 false 48,
bF 50 47 false 1 11,
bL 51 47 false 50,
bO 52 47 false (.bin .neq (aT 49) (aT 51)),
bO 53 41 true (.pick (aT 47) (.val (.bool true)) (aT 52)),
aO 54 (.pick (aT 41) (aT 53) (.val (.bool false))),
aM 10 54] [] [10])
(.ret)))⟩
theorem pf195_ok : fnOk Tryz.prog 195 pf195 = true := by kernel_rfl

/-- slices.siftDownCmpFunc[hinterland/api.Spot] -/
def pf197 : PFn := ⟨82, 5, [], .seq
(.reg [aM 12 1,
aM 10 12] [] [0, 2, 3, 4, 10])
(.blk 0 (.loop (.blk 1 (.seq
(.reg [aM 13 10,
aO 14 (.bin .mul (.val (.int .i64 2)) (aT 13)),
aO 15 (.bin .add (aT 14) (.val (.int .i64 1))),
aM 11 15] [] [0, 2, 3, 4, 10, 11])
(.seq
(.seq
(.reg [aM 16 11,
aM 17 2,
aO 18 (.bin .geq (aT 16) (aT 17))] [] [0, 2, 3, 4, 10, 11, 18])
(.cond (aT 18)
(.ext 0)
(.skip)))
(.seq
(.seq
(.reg [aM 19 11,
aO 20 (.bin .add (aT 19) (.val (.int .i64 1))),
aM 21 2,
aO 22 (.bin .lss (aT 20) (aT 21)),
aM 23 22,
bM 24 23 true 4,
bM 25 23 true 0,
bM 26 23 true 3,
bM 27 23 true 11,
bO 28 23 true (.bin .add (aT 26) (aT 27)),
bO 29 23 true (.iaS 3 (aT 25) (aT 28)),
bN 30 23 true 3 29,
bM 31 23 true 0,
bM 32 23 true 3,
bM 33 23 true 11,
bO 34 23 true (.bin .add (aT 32) (aT 33)),
bO 35 23 true (.bin .add (aT 34) (.val (.int .i64 1))),
bO 36 23 true (.iaS 3 (aT 31) (aT 35)),
bN 37 23 true 3 36,
bO 38 23 true (.callv (aT 24) .pure [(aT 30), (aT 37)]),
bO 39 23 true (.bin .lss (aT 38) (.val (.int .i64 0))),
aO 40 (.pick (aT 23) (aT 39) (.val (.bool false)))] [] [0, 2, 3, 4, 10, 11, 40])
(.cond (aT 40)
(.reg [aM 41 11,
aO 42 (.bin .add (aT 41) (.val (.int .i64 1))),
aM 11 42] [] [0, 2, 3, 4, 10, 11])
(.skip)))
(.seq
(.seq
(.reg [aM 43 4,
aM 44 0,
aM 45 3,
aM 46 10,
aO 47 (.bin .add (aT 45) (aT 46)),
aI 48 3 44 47,
aN 49 3 48,
aM 50 0,
aM 51 3,
aM 52 11,
aO 53 (.bin .add (aT 51) (aT 52)),
aI 54 3 50 53,
aN 55 3 54,
aO 56 (.callv (aT 43) .pure [(aT 49), (aT 55)]),
aO 57 (.bin .lss (aT 56) (.val (.int .i64 0))),
aO 58 (.un .not (aT 57))] [] [0, 2, 3, 4, 10, 11, 58])
(.cond (aT 58)
(.ret)
(.skip)))
(.seq
(.reg [aM 59 0,
aM 60 3,
aM 61 10,
aO 62 (.bin .add (aT 60) (aT 61)),
aM 63 0,
aM 64 3,
aM 65 11,
aO 66 (.bin .add (aT 64) (aT 65)),
aM 67 0,
aM 68 3,
aM 69 11,
aO 70 (.bin .add (aT 68) (aT 69)),
aI 71 3 67 70,
aN 72 3 71,
aM 73 0,
aM 74 3,
aM 75 10,
aO 76 (.bin .add (aT 74) (aT 75)),
aI 77 3 73 76,
aN 78 3 77,
aI 79 3 59 62,
aZ (.st 3 (aT 79) (aT 72)),
aI 80 3 63 66,
aZ (.st 3 (aT 80) (aT 78))] [] [0, 2, 3, 4, 11])
(.reg [aM 81 11,
aM 10 81] [] [0, 2, 3, 4, 10])))))))))⟩
theorem pf197_ok : fnOk Tryz.prog 197 pf197 = true := by kernel_rfl

/-- slices.nextPowerOfTwo -/
def pf198 : PFn := ⟨7, 1, [.tmp 2], .seq
(.reg [aO 2 (.mv (.val (.int .u64 0)))] [] [0])
(.seq
(.reg [aM 3 0,
aO 4 (.conv .u64 (aT 3)),
aO 5 (.call 160 .pure [(aT 4)]),
aO 6 (.bin .shl (.val (.int .u64 1)) (aT 5)),
aM 2 6] [] [2])
(.ret))⟩
theorem pf198_ok : fnOk Tryz.prog 198 pf198 = true := by kernel_rfl

/-- (*slices.xorshift).Next -/
def pf199 : PFn := ⟨33, 1, [.tmp 2], .seq
(.reg [aO 2 (.mv (.val (.int .u64 0)))] [] [0])
(.seq
(.reg [aM 3 0,
aO 4 (.nck (aT 3)),
aL 5 4,
aM 6 0,
aO 7 (.nck (aT 6)),
aL 8 7,
aO 9 (.bin .shl (aT 8) (.val (.int .u64 13))),
aO 10 (.bin .xor (aT 5) (aT 9)),
aO 11 (.nck (aT 3)),
aZ (.st 1 (aT 11) (aT 10))] [] [0])
(.seq
(.reg [aM 12 0,
aO 13 (.nck (aT 12)),
aL 14 13,
aM 15 0,
aO 16 (.nck (aT 15)),
aL 17 16,
aO 18 (.bin .shr (aT 17) (.val (.int .u64 7))),
aO 19 (.bin .xor (aT 14) (aT 18)),
aO 20 (.nck (aT 12)),
aZ (.st 1 (aT 20) (aT 19))] [] [0])
(.seq
(.reg [aM 21 0,
aO 22 (.nck (aT 21)),
aL 23 22,
aM 24 0,
aO 25 (.nck (aT 24)),
aL 26 25,
aO 27 (.bin .shl (aT 26) (.val (.int .u64 17))),
aO 28 (.bin .xor (aT 23) (aT 27)),
aO 29 (.nck (aT 21)),
aZ (.st 1 (aT 29) (aT 28))] [] [0])
(.seq
(.reg [aM 30 0,
aO 31 (.nck (aT 30)),
aL 32 31,
aM 2 32] [] [2])
(.ret)))))⟩
theorem pf199_ok : fnOk Tryz.prog 199 pf199 = true := by kernel_rfl

/-- slices.medianAdjacentCmpFunc[hinterland/api.Spot] -/
def pf200 : PFn := ⟨18, 4, [.tmp 8], .seq
(.reg [aO 8 (.mv (.val (.int .i64 0)))] [] [0, 1, 2, 3])
(.seq
(.reg [aM 9 0,
aM 10 1,
aO 11 (.bin .sub (aT 10) (.val (.int .i64 1))),
aM 12 1,
aM 13 1,
aO 14 (.bin .add (aT 13) (.val (.int .i64 1))),
aM 15 2,
aM 16 3,
aO 17 (.call 201 .pure [(aT 9), (aT 11), (aT 12), (aT 14), (aT 15), (aT 16)]),
aM 8 17] [] [8])
(.ret))⟩
theorem pf200_ok : fnOk Tryz.prog 200 pf200 = true := by kernel_rfl

/-- slices.medianCmpFunc[hinterland/api.Spot] -/
def pf201 : PFn := ⟨41, 6, [.tmp 12], .seq
(.reg [aO 12 (.mv (.val (.int .i64 0)))] [] [0, 1, 2, 3, 4, 5])
(.seq
(.reg [aM 14 0,
aM 15 1,
aM 16 2,
aM 17 4,
aM 18 5,
aO 19 (.call 209 .pure [(aT 14), (aT 15), (aT 16), (aT 17), (aT 18)]),
aM 13 19,
aO 20 (.ext 0 (aT 13)),
aO 21 (.ext 1 (aT 13)),
aM 1 20,
aM 2 21] [] [0, 1, 2, 3, 4, 5])
(.seq
(.reg [aM 23 0,
aM 24 2,
aM 25 3,
aM 26 4,
aM 27 5,
aO 28 (.call 209 .pure [(aT 23), (aT 24), (aT 25), (aT 26), (aT 27)]),
aM 22 28,
aO 29 (.ext 0 (aT 22)),
aO 30 (.ext 1 (aT 22)),
aM 2 29,
aM 3 30] [] [0, 1, 2, 4, 5])
(.seq
(.reg [aM 32 0,
aM 33 1,
aM 34 2,
aM 35 4,
aM 36 5,
aO 37 (.call 209 .pure [(aT 32), (aT 33), (aT 34), (aT 35), (aT 36)]),
aM 31 37,
aO 38 (.ext 0 (aT 31)),
aO 39 (.ext 1 (aT 31)),
aM 1 38,
aM 2 39] [] [2])
(.seq
(.reg [aM 40 2,
aM 12 40] [] [12])
(.ret)))))⟩
theorem pf201_ok : fnOk Tryz.prog 201 pf201 = true := by kernel_rfl

/-- hinterland/block.part -/
def pf202 : PFn := ⟨23, 2, [.tmp 4], .seq
(.reg [aO 4 (.mv (.val (.bool false)))] [] [0, 1])
(.seq
(.reg [aM 5 0,
aO 6 (.bin .geq (aT 5) (.val (.int .i64 2))),
aM 7 6,
bM 8 7 true 1,
bO 9 7 true (.bin .geq (aT 8) (.val (.int .i64 2))),
aO 10 (.pick (aT 7) (aT 9) (.val (.bool false))),
aM 11 10,
bM 12 11 true 0,
bM 13 11 true 1,
bO 14 11 true (.bin .sub (aT 12) (aT 13)),
bO 15 11 true (.bin .eql (aT 14) (.val (.int .i64 2))),
bM 16 11 true 15,
bM 17 16 false 1,
bM 18 16 false 0,
bO 19 16 false (.bin .sub (aT 17) (aT 18)),
bO 20 16 false (.bin .eql (aT 19) (.val (.int .i64 2))),
bO 21 11 true (.pick (aT 16) (.val (.bool true)) (aT 20)),
aO 22 (.pick (aT 11) (aT 21) (.val (.bool false))),
aM 4 22] [] [4])
(.ret))⟩
theorem pf202_ok : fnOk Tryz.prog 202 pf202 = true := by kernel_rfl

/-- hinterland/block.join -/
def pf203 : PFn := ⟨20, 3, [], .seq
(.reg [aM 6 0,
aM 7 1,
aO 8 (.call 184 .opn [(aT 6), (aT 7)]),
aM 9 0,
aM 10 2,
aO 11 (.call 184 .opn [(aT 9), (aT 10)]),
aM 1 8,
aM 2 11] [] [0, 1, 2])
(.reg [aM 12 0,
aM 13 1,
aM 14 2,
aO 15 (.mx (aT 13) [(aT 14)]),
aM 16 1,
aM 17 2,
aO 18 (.mn (aT 16) [(aT 17)]),
aI 19 1 12 15,
aZ (.st 1 (aT 19) (aT 18))] [] [])⟩
theorem pf203_ok : fnOk Tryz.prog 203 pf203 = true := by kernel_rfl

/-- hinterland/block.number -/
def pf204 : PFn := ⟨9, 2, [.tmp 4], .seq
(.reg [aO 4 (.mv (.val (.int .i64 0)))] [] [0, 1])
(.seq
(.reg [aM 5 0,
aO 6 (.bin .mul (.val (.int .i64 8)) (aT 5)),
aM 7 1,
aO 8 (.bin .add (aT 6) (aT 7)),
aM 4 8] [] [4])
(.ret))⟩
theorem pf204_ok : fnOk Tryz.prog 204 pf204 = true := by kernel_rfl

/-- (hinterland/block.signals).stand -/
def pf205 : PFn := ⟨21, 4, [.tmp 8], .seq
(.reg [aO 8 (.mv (.val (.bool false)))] [] [0, 1, 2, 3])
(.seq
(.reg [aM 12 0,
aM 13 1,
aM 14 2,
aM 15 3,
aO 16 (.bld [(.int .i64 0), (.int .i64 0), (.int .i64 0), (.int .i64 0)] [(0, 1, (aT 13)), (1, 1, (aT 14)), (2, 1, (aT 15))]),
aO 17 (.call 210 .pure [(aT 12), (aT 16)]),
aM 11 17,
aO 18 (.ext 0 (aT 11)),
aO 19 (.ext 1 (aT 11)),
aM 9 18,
aM 10 19] [] [10])
(.seq
(.reg [aM 20 10,
aM 8 20] [] [8])
(.ret)))⟩
theorem pf205_ok : fnOk Tryz.prog 205 pf205 = true := by kernel_rfl

/-- slices.siftDownOrdered[int] -/
def pf206 : PFn := ⟨76, 4, [], .seq
(.reg [aM 10 1,
aM 8 10] [] [0, 2, 3, 8])
(.blk 0 (.loop (.blk 1 (.seq
(.reg [aM 11 8,
aO 12 (.bin .mul (.val (.int .i64 2)) (aT 11)),
aO 13 (.bin .add (aT 12) (.val (.int .i64 1))),
aM 9 13] [] [0, 2, 3, 8, 9])
(.seq
(.seq
(.reg [aM 14 9,
aM 15 2,
aO 16 (.bin .geq (aT 14) (aT 15))] [] [0, 2, 3, 8, 9, 16])
(.cond (aT 16)
(.ext 0)
(.skip)))
(.seq
(.seq
(.reg [aM 17 9,
aO 18 (.bin .add (aT 17) (.val (.int .i64 1))),
aM 19 2,
aO 20 (.bin .lss (aT 18) (aT 19)),
aM 21 20,
bM 22 21 true 0,
bM 23 21 true 3,
bM 24 21 true 9,
bO 25 21 true (.bin .add (aT 23) (aT 24)),
bO 26 21 true (.iaS 1 (aT 22) (aT 25)),
bL 27 21 true 26,
bM 28 21 true 0,
bM 29 21 true 3,
bM 30 21 true 9,
bO 31 21 true (.bin .add (aT 29) (aT 30)),
bO 32 21 true (.bin .add (aT 31) (.val (.int .i64 1))),
bO 33 21 true (.iaS 1 (aT 28) (aT 32)),
bL 34 21 true 33,
bO 35 21 true (.call 191 .pure [(aT 27), (aT 34)]),
aO 36 (.pick (aT 21) (aT 35) (.val (.bool false)))] [] [0, 2, 3, 8, 9, 36])
(.cond (aT 36)
(.reg [aM 37 9,
aO 38 (.bin .add (aT 37) (.val (.int .i64 1))),
aM 9 38] [] [0, 2, 3, 8, 9])
(.skip)))
(.seq
(.seq
(.reg [aM 39 0,
aM 40 3,
aM 41 8,
aO 42 (.bin .add (aT 40) (aT 41)),
aI 43 1 39 42,
aL 44 43,
aM 45 0,
aM 46 3,
aM 47 9,
aO 48 (.bin .add (aT 46) (aT 47)),
aI 49 1 45 48,
aL 50 49,
aO 51 (.call 191 .pure [(aT 44), (aT 50)]),
aO 52 (.un .not (aT 51))] [] [0, 2, 3, 8, 9, 52])
(.cond (aT 52)
(.ret)
(.skip)))
(.seq
(.reg [aM 53 0,
aM 54 3,
aM 55 8,
aO 56 (.bin .add (aT 54) (aT 55)),
aM 57 0,
aM 58 3,
aM 59 9,
aO 60 (.bin .add (aT 58) (aT 59)),
aM 61 0,
aM 62 3,
aM 63 9,
aO 64 (.bin .add (aT 62) (aT 63)),
aI 65 1 61 64,
aL 66 65,
aM 67 0,
aM 68 3,
aM 69 8,
aO 70 (.bin .add (aT 68) (aT 69)),
aI 71 1 67 70,
aL 72 71,
aI 73 1 53 56,
aZ (.st 1 (aT 73) (aT 66)),
aI 74 1 57 60,
aZ (.st 1 (aT 74) (aT 72))] [] [0, 2, 3, 9])
(.reg [aM 75 9,
aM 8 75] [] [0, 2, 3, 8])))))))))⟩
theorem pf206_ok : fnOk Tryz.prog 206 pf206 = true := by kernel_rfl

/-- slices.medianAdjacentOrdered[int] -/
def pf207 : PFn := ⟨15, 3, [.tmp 6], .seq
(.reg [aO 6 (.mv (.val (.int .i64 0)))] [] [0, 1, 2])
(.seq
(.reg [aM 7 0,
aM 8 1,
aO 9 (.bin .sub (aT 8) (.val (.int .i64 1))),
aM 10 1,
aM 11 1,
aO 12 (.bin .add (aT 11) (.val (.int .i64 1))),
aM 13 2,
aO 14 (.call 208 .pure [(aT 7), (aT 9), (aT 10), (aT 12), (aT 13)]),
aM 6 14] [] [6])
(.ret))⟩
theorem pf207_ok : fnOk Tryz.prog 207 pf207 = true := by kernel_rfl

/-- slices.medianOrdered[int] -/
def pf208 : PFn := ⟨36, 5, [.tmp 10], .seq
(.reg [aO 10 (.mv (.val (.int .i64 0)))] [] [0, 1, 2, 3, 4])
(.seq
(.reg [aM 12 0,
aM 13 1,
aM 14 2,
aM 15 4,
aO 16 (.call 211 .pure [(aT 12), (aT 13), (aT 14), (aT 15)]),
aM 11 16,
aO 17 (.ext 0 (aT 11)),
aO 18 (.ext 1 (aT 11)),
aM 1 17,
aM 2 18] [] [0, 1, 2, 3, 4])
(.seq
(.reg [aM 20 0,
aM 21 2,
aM 22 3,
aM 23 4,
aO 24 (.call 211 .pure [(aT 20), (aT 21), (aT 22), (aT 23)]),
aM 19 24,
aO 25 (.ext 0 (aT 19)),
aO 26 (.ext 1 (aT 19)),
aM 2 25,
aM 3 26] [] [0, 1, 2, 4])
(.seq
(.reg [aM 28 0,
aM 29 1,
aM 30 2,
aM 31 4,
aO 32 (.call 211 .pure [(aT 28), (aT 29), (aT 30), (aT 31)]),
aM 27 32,
aO 33 (.ext 0 (aT 27)),
aO 34 (.ext 1 (aT 27)),
aM 1 33,
aM 2 34] [] [2])
(.seq
(.reg [aM 35 2,
aM 10 35] [] [10])
(.ret)))))⟩
theorem pf208_ok : fnOk Tryz.prog 208 pf208 = true := by kernel_rfl

/-- slices.order2CmpFunc[hinterland/api.Spot] -/
def pf209 : PFn := ⟨32, 5, [.tmp 10, .tmp 11], .seq
(.reg [aO 10 (.mv (.val (.int .i64 0))),
aO 11 (.mv (.val (.int .i64 0)))] [] [0, 1, 2, 3, 4])
(.seq
(.seq
(.reg [aM 12 4,
aM 13 0,
aM 14 2,
aI 15 3 13 14,
aN 16 3 15,
aM 17 0,
aM 18 1,
aI 19 3 17 18,
aN 20 3 19,
aO 21 (.callv (aT 12) .pure [(aT 16), (aT 20)]),
aO 22 (.bin .lss (aT 21) (.val (.int .i64 0)))] [] [1, 2, 3, 22])
(.cond (aT 22)
(.seq
(.reg [aM 23 3,
aO 24 (.nck (aT 23)),
aL 25 24,
aO 26 (.bin .add (aT 25) (.val (.int .i64 1))),
aO 27 (.nck (aT 23)),
aZ (.st 1 (aT 27) (aT 26))] [] [1, 2])
(.seq
(.reg [aM 28 2,
aM 29 1,
aM 10 28,
aM 11 29] [] [10, 11])
(.ret)))
(.skip)))
(.seq
(.reg [aM 30 1,
aM 31 2,
aM 10 30,
aM 11 31] [] [10, 11])
(.ret)))⟩
theorem pf209_ok : fnOk Tryz.prog 209 pf209 = true := by kernel_rfl

/-- hinterland/block.at -/
def pf210 : PFn := ⟨11, 2, [.tmp 4, .tmp 5], .seq
(.reg [aO 3 (.boxp 75 (aT 1)),
aO 4 (.mv (.val (.int .i64 0))),
aO 5 (.mv (.val (.bool false)))] [] [0, 3])
(.seq
(.reg [aM 6 0,
aN 7 4 3,
aO 8 (.call 212 .pure [(aT 6), (aT 7), (.val (.clo (.func 105) [] []))]),
aO 9 (.ext 0 (aT 8)),
aO 10 (.ext 1 (aT 8)),
aM 4 9,
aM 5 10] [] [4, 5])
(.ret))⟩
theorem pf210_ok : fnOk Tryz.prog 210 pf210 = true := by kernel_rfl

/-- slices.order2Ordered[int] -/
def pf211 : PFn := ⟨28, 4, [.tmp 8, .tmp 9], .seq
(.reg [aO 8 (.mv (.val (.int .i64 0))),
aO 9 (.mv (.val (.int .i64 0)))] [] [0, 1, 2, 3])
(.seq
(.seq
(.reg [aM 10 0,
aM 11 2,
aI 12 1 10 11,
aL 13 12,
aM 14 0,
aM 15 1,
aI 16 1 14 15,
aL 17 16,
aO 18 (.call 191 .pure [(aT 13), (aT 17)])] [] [1, 2, 3, 18])
(.cond (aT 18)
(.seq
(.reg [aM 19 3,
aO 20 (.nck (aT 19)),
aL 21 20,
aO 22 (.bin .add (aT 21) (.val (.int .i64 1))),
aO 23 (.nck (aT 19)),
aZ (.st 1 (aT 23) (aT 22))] [] [1, 2])
(.seq
(.reg [aM 24 2,
aM 25 1,
aM 8 24,
aM 9 25] [] [8, 9])
(.ret)))
(.skip)))
(.seq
(.reg [aM 26 1,
aM 27 2,
aM 8 26,
aM 9 27] [] [8, 9])
(.ret)))⟩
theorem pf211_ok : fnOk Tryz.prog 211 pf211 = true := by kernel_rfl

/-- slices.BinarySearchFunc[[]hinterland/api.Signal,hinterland/api.Signal,hinterland/api.Signal] -/
def pf212 : PFn := ⟨49, 3, [.tmp 6, .tmp 7], .seq
(.reg [aO 4 (.boxp 75 (aT 1)),
aO 6 (.mv (.val (.int .i64 0))),
aO 7 (.mv (.val (.bool false)))] [] [0, 2, 4])
(.seq
(.reg [aM 12 0,
aO 13 (.len (aT 12)),
aM 8 13] [] [0, 2, 4, 8])
(.seq
(.reg [aM 14 8,
aO 9 (.mv (.val (.int .i64 0))),
aM 10 14] [] [0, 2, 4, 8, 9, 10])
(.seq
(.blk 0 (.loop (.seq
(.seq
(.reg [aM 15 9,
aM 16 10,
aO 17 (.bin .lss (aT 15) (aT 16))] [] [0, 2, 4, 8, 9, 10, 17])
(.cond (aT 17)
(.skip)
(.ext 0)))
(.blk 1 (.seq
(.reg [aM 18 9,
aM 19 10,
aO 20 (.bin .add (aT 18) (aT 19)),
aO 21 (.conv .u64 (aT 20)),
aO 22 (.bin .shr (aT 21) (.val (.int .u64 1))),
aO 23 (.conv .i64 (aT 22)),
aM 11 23] [] [0, 2, 4, 8, 9, 10, 11])
(.seq
(.reg [aM 24 2,
aM 25 0,
aM 26 11,
aI 27 4 25 26,
aN 28 4 27,
aN 29 4 4,
aO 30 (.callv (aT 24) .pure [(aT 28), (aT 29)]),
aO 31 (.bin .lss (aT 30) (.val (.int .i64 0)))] [] [0, 2, 4, 8, 9, 10, 11, 31])
(.cond (aT 31)
(.reg [aM 32 11,
aO 33 (.bin .add (aT 32) (.val (.int .i64 1))),
aM 9 33] [] [0, 2, 4, 8, 9, 10])
(.reg [aM 34 11,
aM 10 34] [] [0, 2, 4, 8, 9, 10]))))))))
(.seq
(.reg [aM 35 9,
aM 36 9,
aM 37 8,
aO 38 (.bin .lss (aT 36) (aT 37)),
aM 39 38,
bM 40 39 true 2,
bM 41 39 true 0,
bM 42 39 true 9,
bO 43 39 true (.iaS 4 (aT 41) (aT 42)),
bN 44 39 true 4 43,
bN 45 39 true 4 4,
bO 46 39 true (.callv (aT 40) .pure [(aT 44), (aT 45)]),
bO 47 39 true (.bin .eql (aT 46) (.val (.int .i64 0))),
aO 48 (.pick (aT 39) (aT 47) (.val (.bool false))),
aM 6 35,
aM 7 48] [] [6, 7])
(.ret)))))⟩
theorem pf212_ok : fnOk Tryz.prog 212 pf212 = true := by kernel_rfl

end Go.Proofs.YtiaeckidlmoohaaGreat
