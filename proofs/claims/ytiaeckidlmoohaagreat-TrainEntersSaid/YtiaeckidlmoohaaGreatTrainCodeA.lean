/- PCode of functions, written by wip/tools/gen.py out of the loaded functions' print. -/
import Derived.Test.YtiaeckidlmoohaaGreatPmTwentyFive
import Derived.Test.YtiaeckidlmoohaaGreatPmTwentySeven
import Derived.Test.YtiaeckidlmoohaaGreatProg
import Derived.KernelRfl
import Derived.Test.YtiaeckidlmoohaaGreatTrainAbb
set_option maxRecDepth 100000
namespace Go.Proofs.YtiaeckidlmoohaaGreat
open Go.Proofs.YtiaeckidlmoohaaGreat.PM
def pf7 : PFn := ⟨32, 1, [.tmp 2], sq
(rg [aU 2 false] [0])
(sq
(sq
(rg [aM 7 0,
aG 8 7,
aK 9 .gtr 8 1100] [0, 9])
(cn 9
(sq
(rg [aP 10 20 [],
aM 2 10] [2])
.ret)
.skip))
(sq
(rg [aM 12 0,
aP 13 31 [aT 12],
aM 11 13,
aE 14 0 11,
aE 15 1 11,
aM 3 14,
aM 4 15] [0, 3, 4])
(sq
(rg [aM 17 0,
aP 18 32 [aT 17],
aM 16 18,
aE 19 0 16,
aE 20 1 16,
aM 5 19,
aM 6 20] [3, 4, 5, 6])
(sq
(rg [aM 21 4,
aM 22 6,
aB 23 .eql 21 22,
aM 24 23,
bM 25 24 true 3,
bM 26 24 true 5,
bO 27 24 true (.call 30 .pure [(aT 25), (aT 26)]),
aO 28 (.pick (aT 24) (aT 27) (.val (.bool false))),
aM 29 28,
bO 30 29 true (.call 20 .pure []),
aO 31 (.pick (aT 29) (aT 30) (.val (.bool false))),
aM 2 31] [2])
.ret))))⟩
def pf8 : PFn := ⟨82, 1, [.tmp 2], sq
(rg [aU 2 false] [0])
(sq
(sq
(rg [aM 8 0,
aG 9 8,
aK 10 .gtr 9 1100] [0, 10])
(cn 10
(sq
(rg [aP 11 20 [],
aM 2 11] [2])
.ret)
.skip))
(sq
(rg [aM 13 0,
aP 14 31 [aT 13],
aM 12 14,
aE 15 0 12,
aE 16 1 12,
aM 3 15,
aM 4 16] [0, 3, 4])
(sq
(sq
(rg [aM 17 4,
aK 18 .neq 17 0] [0, 3, 18])
(cn 18
(sq
(rg [aM 19 3,
aG 20 19,
aK 21 .eql 20 0,
aM 22 21,
bO 23 22 true (.call 20 .pure []),
aO 24 (.pick (aT 22) (aT 23) (.val (.bool false))),
aM 2 24] [2])
.ret)
.skip))
(sq
(rg [aM 25 0,
aG 26 25,
aO 27 (.mks 4 1 1 [(.bool false)] (aT 26) (aT 26)),
aM 5 27] [0, 3, 5])
(sq
(sq
(rg [aM 28 3,
aG 29 28,
aC 30 0] [0, 3, 5, 28, 29, 30])
(.blk 0 (.loop (sq
(rg [aB 31 .lss 30 29] [0, 3, 5, 28, 29, 30, 31])
(sq
(cn 31
.skip
(.ext 0))
(sq
(.blk 1 (sq
(rg [aM 32 30,
aI 33 1 28 30,
aL 34 33,
aM 6 32,
aM 7 34] [0, 3, 5, 6, 7, 28, 29, 30])
(sq
(sq
(rg [aM 35 7,
aK 36 .lss 35 0,
aM 37 36,
bM 38 37 false 7,
bM 39 37 false 0,
bO 40 37 false (.len (aT 39)),
bO 41 37 false (.bin .geq (aT 38) (aT 40)),
aO 42 (.pick (aT 37) (.val (.bool true)) (aT 41)),
aM 43 42,
bM 44 43 false 6,
bO 45 43 false (.bin .gtr (aT 44) (cI 0)),
bM 46 43 false 45,
bM 47 46 true 3,
bM 48 46 true 6,
bO 49 46 true (.bin .sub (aT 48) (cI 1)),
bO 50 46 true (.iaS 1 (aT 47) (aT 49)),
bL 51 46 true 50,
bM 52 46 true 7,
bO 53 46 true (.bin .geq (aT 51) (aT 52)),
bO 54 43 false (.pick (aT 46) (aT 53) (.val (.bool false))),
aO 55 (.pick (aT 43) (.val (.bool true)) (aT 54)),
aM 56 55,
bM 57 56 false 3,
bM 58 56 false 0,
bM 59 56 false 7,
bO 60 56 false (.iaS 1 (aT 58) (aT 59)),
bL 61 56 false 60,
bO 62 56 false (.call 33 .pure [(aT 57), (aT 61)]),
bO 63 56 false (.un .not (aT 62)),
aO 64 (.pick (aT 56) (.val (.bool true)) (aT 63)),
aM 65 64,
bM 66 65 false 5,
bM 67 65 false 0,
bM 68 65 false 7,
bO 69 65 false (.iaS 1 (aT 67) (aT 68)),
bL 70 65 false 69,
bO 71 65 false (.iaS 1 (aT 66) (aT 70)),
bL 72 65 false 71,
aO 73 (.pick (aT 65) (.val (.bool true)) (aT 72))] [0, 3, 5, 7, 28, 29, 30, 73])
(cn 73
(sq
(rg [aU 2 false] [2])
.ret)
.skip))
(rg [aM 74 5,
aM 75 0,
aM 76 7,
aI 77 1 75 76,
aL 78 77,
aI 79 1 74 78,
aZ (.st 1 (aT 79) (.val (.bool true)))] [0, 3, 5, 28, 29, 30]))))
(rg [aK 80 .add 30 1,
aM 30 80] [0, 3, 5, 28, 29, 30])))))))
(sq
(rg [aP 81 20 [],
aM 2 81] [2])
.ret))))))⟩
def pf20 : PFn := ⟨58, 0, [.tmp 0], sq
(rg [aU 0 false] [])
(sq
(rg [aP 8 53 [],
aO 9 (.bsl 2 1 [(.list .nil 1 [])] [(0, 1, (.val (.list .nil 1 []))), (1, 1, (.val (.list .nil 1 [])))]),
aP 10 28 [aT 8, aT 9],
aM 7 10,
aE 11 0 7,
aE 12 1 7,
aM 1 11,
aM 2 12] [1, 2])
(sq
(rg [aO 14 (.bsl 2 1 [(iP 0)] [(0, 1, (cI 1)), (1, 1, (cI 0))]),
aP 15 31 [aT 14],
aM 13 15,
aE 16 0 13,
aE 17 1 13,
aM 3 16,
aM 4 17] [1, 2, 3, 4])
(sq
(rg [aP 19 53 [],
aP 20 23 [aT 19],
aM 18 20,
aE 21 0 18,
aE 22 1 18,
aM 5 21,
aM 6 22] [1, 2, 3, 4, 5, 6])
(sq
(rg [aM 23 2,
aK 24 .eql 23 0,
aM 25 24,
bM 26 25 true 1,
bO 27 25 true (.len (aT 26)),
bO 28 25 true (.bin .eql (aT 27) (cI 2)),
aO 29 (.pick (aT 25) (aT 28) (.val (.bool false))),
aM 30 29,
bM 31 30 true 4,
bO 32 30 true (.bin .eql (aT 31) (cI 0)),
aO 33 (.pick (aT 30) (aT 32) (.val (.bool false))),
aM 34 33,
bM 35 34 true 3,
bO 36 34 true (.len (aT 35)),
bO 37 34 true (.bin .eql (aT 36) (cI 2)),
aO 38 (.pick (aT 34) (aT 37) (.val (.bool false))),
aM 39 38,
bM 40 39 true 3,
bO 41 39 true (.iaS 1 (aT 40) (cI 0)),
bL 42 39 true 41,
bO 43 39 true (.bin .eql (aT 42) (cI 0)),
aO 44 (.pick (aT 39) (aT 43) (.val (.bool false))),
aM 45 44,
bM 46 45 true 3,
bO 47 45 true (.iaS 1 (aT 46) (cI 1)),
bL 48 45 true 47,
bO 49 45 true (.bin .eql (aT 48) (cI 1)),
aO 50 (.pick (aT 45) (aT 49) (.val (.bool false))),
aM 51 50,
bM 52 51 true 5,
aO 53 (.pick (aT 51) (aT 52) (.val (.bool false))),
aM 54 53,
bM 55 54 true 6,
bO 56 54 true (.bin .eql (aT 55) (cI 0)),
aO 57 (.pick (aT 54) (aT 56) (.val (.bool false))),
aM 0 57] [0])
.ret))))⟩
def pf21 : PFn := ⟨140, 1, [.tmp 2], sq
(rg [aO 1 (.boxp 30 (aT 0)),
aC 2 0] [1])
(sq
(sq
(rg [aF 17 0 1,
aN 18 4 17,
aF 19 4 1,
aL 20 19,
aP 21 54 [aT 18, aT 20],
aM 3 21] [1, 3])
(sq
(rg [aM 22 3,
aK 23 .neq 22 0] [1, 3, 23])
(cn 23
(sq
(rg [aM 24 3,
aM 2 24] [2])
.ret)
.skip)))
(sq
(sq
(rg [aF 25 5 1,
aL 26 25,
aG 27 26,
aK 28 .gtr 27 80,
aM 29 28,
bF 30 29 false 6 1,
bL 31 29 false 30,
bO 32 29 false (.len (aT 31)),
bO 33 29 false (.bin .gtr (aT 32) (cI 60)),
aO 34 (.pick (aT 29) (.val (.bool true)) (aT 33))] [1, 34])
(cn 34
(sq
(rg [aC 2 4] [2])
.ret)
.skip))
(sq
(sq
(rg [aF 35 5 1,
aL 36 35,
aG 37 36,
aC 38 0] [1, 36, 37, 38])
(.blk 0 (.loop (.trim (sq
(rg [aB 39 .lss 38 37] [1, 36, 37, 38, 39])
(sq
(cn 39
.skip
(.ext 0))
(sq
(.blk 1 (sq
(rg [aM 40 38,
aI 41 6 36 38,
aN 42 6 41,
aO 5 (.zer 78 (.agg [(iP 0), (iP 0), (iP 0), (iP 0), (iP 0), (iP 0)])),
aM 4 40,
aZ (.st 6 (aT 5) (aT 42))] [1, 4, 5, 36, 37, 38])
(sq
(rg [aM 43 4,
aK 44 .gtr 43 0,
aM 45 44,
bF 46 45 true 5 1,
bL 47 45 true 46,
bM 48 45 true 4,
bO 49 45 true (.bin .sub (aT 48) (cI 1)),
bO 50 45 true (.iaS 6 (aT 47) (aT 49)),
bF 51 45 true 0 50,
bN 52 45 true 3 51,
bF 53 45 true 0 5,
bN 54 45 true 3 53,
bO 55 45 true (.call 56 .pure [(aT 52), (aT 54)]),
bF 56 45 true 5 1,
bL 57 45 true 56,
bM 58 45 true 4,
bO 59 45 true (.bin .sub (aT 58) (cI 1)),
bO 60 45 true (.iaS 6 (aT 57) (aT 59)),
bF 61 45 true 3 60,
bN 62 45 true 3 61,
bF 63 45 true 3 5,
bN 64 45 true 3 63,
bO 65 45 true (.call 56 .pure [(aT 62), (aT 64)]),
bO 66 45 true (.bsl 2 1 [(iP 0)] [(0, 1, (aT 55)), (1, 1, (aT 65))]),
bO 67 45 true (.call 55 .pure [(aT 66)]),
bO 68 45 true (.bin .geq (aT 67) (cI 0)),
aO 69 (.pick (aT 45) (aT 68) (.val (.bool false)))] [1, 36, 37, 38, 69])
(cn 69
(sq
(rg [aC 2 1] [2])
.ret)
.skip))))
(rg [aK 70 .add 38 1,
aM 38 70] [1, 36, 37, 38]))))))))
(sq
(sq
(rg [aF 71 6 1,
aL 72 71,
aG 73 72,
aC 74 0] [1, 72, 73, 74])
(.blk 2 (.loop (.trim (sq
(rg [aB 75 .lss 74 73] [1, 72, 73, 74, 75])
(sq
(cn 75
.skip
(.ext 2))
(sq
(.blk 3 (sq
(rg [aI 76 5 72 74,
aN 77 5 76,
aO 7 (.zer 68 (.agg [(iP 0), (iP 0), (iP 0), (.list .nil 3 []), (.list .nil 3 [])])),
aZ (.st 5 (aT 7) (aT 77))] [1, 7, 72, 73, 74])
(sq
(rg [aN 78 5 7,
aP 79 57 [aT 78],
aO 80 (.un .not (aT 79))] [1, 72, 73, 74, 80])
(cn 80
(sq
(rg [aC 2 1] [2])
.ret)
.skip))))
(rg [aK 81 .add 74 1,
aM 74 81] [1, 72, 73, 74]))))))))
(sq
(sq
(rg [aF 82 5 1,
aL 83 82,
aG 84 83,
aC 85 0] [1, 83, 84, 85])
(.blk 4 (.loop (.trim (sq
(rg [aB 86 .lss 85 84] [1, 83, 84, 85, 86])
(sq
(cn 86
.skip
(.ext 4))
(sq
(.blk 5 (sq
(rg [aI 87 6 83 85,
aN 88 6 87,
aO 9 (.zer 78 (.agg [(iP 0), (iP 0), (iP 0), (iP 0), (iP 0), (iP 0)])),
aZ (.st 6 (aT 9) (aT 88))] [1, 9, 83, 84, 85])
(sq
(rg [aF 89 0 1,
aN 90 4 89,
aF 91 0 9,
aN 92 3 91,
aP 93 58 [aT 90, aT 92],
aO 94 (.un .not (aT 93)),
aM 95 94,
bF 96 95 false 0 1,
bN 97 95 false 4 96,
bF 98 95 false 3 9,
bN 99 95 false 3 98,
bO 100 95 false (.call 58 .pure [(aT 97), (aT 99)]),
bO 101 95 false (.un .not (aT 100)),
aO 102 (.pick (aT 95) (.val (.bool true)) (aT 101))] [1, 83, 84, 85, 102])
(cn 102
(sq
(rg [aC 2 2] [2])
.ret)
.skip))))
(rg [aK 103 .add 85 1,
aM 85 103] [1, 83, 84, 85]))))))))
(sq
(sq
(rg [aF 104 6 1,
aL 105 104,
aG 106 105,
aC 107 0] [1, 105, 106, 107])
(.blk 6 (.loop (.trim (sq
(rg [aB 108 .lss 107 106] [1, 105, 106, 107, 108])
(sq
(cn 108
.skip
(.ext 6))
(sq
(.blk 7 (sq
(rg [aI 109 5 105 107,
aN 110 5 109,
aO 11 (.zer 68 (.agg [(iP 0), (iP 0), (iP 0), (.list .nil 3 []), (.list .nil 3 [])])),
aZ (.st 5 (aT 11) (aT 110))] [1, 11, 105, 106, 107])
(sq
(rg [aN 111 5 11,
aP 112 59 [aT 111],
aG 113 112,
aC 114 0] [1, 105, 106, 107, 112, 113, 114])
(.blk 8 (.loop (.trim (sq
(rg [aB 115 .lss 114 113] [1, 105, 106, 107, 112, 113, 114, 115])
(sq
(cn 115
.skip
(.ext 8))
(sq
(.blk 9 (sq
(rg [aI 116 3 112 114,
aN 117 3 116,
aO 13 (.zer 54 (.agg [(iP 0), (iP 0), (iP 0)])),
aZ (.st 3 (aT 13) (aT 117))] [1, 13, 105, 106, 107, 112, 113, 114])
(sq
(rg [aF 118 0 1,
aN 119 4 118,
aN 120 3 13,
aP 121 58 [aT 119, aT 120],
aO 122 (.un .not (aT 121))] [1, 105, 106, 107, 112, 113, 114, 122])
(cn 122
(sq
(rg [aC 2 2] [2])
.ret)
.skip))))
(rg [aK 123 .add 114 1,
aM 114 123] [1, 105, 106, 107, 112, 113, 114]))))))))))
(rg [aK 124 .add 107 1,
aM 107 124] [1, 105, 106, 107]))))))))
(sq
(rg [aN 125 7 1,
aP 126 60 [aT 125],
aO 14 (.zer 90 (.agg [(iP 0), (iP 0), (.list .nil 1 []), (.list .nil 1 []), (.list .nil 4 []), (.list .nil 6 []), (.list .nil 5 []), .nilmap, .nilmap])),
aZ (.st 9 (aT 14) (aT 126))] [1, 14])
(sq
(sq
(rg [aF 127 6 1,
aL 128 127,
aG 129 128,
aC 130 0] [14, 128, 129, 130])
(.blk 10 (.loop (.trim (sq
(rg [aB 131 .lss 130 129] [14, 128, 129, 130, 131])
(sq
(cn 131
.skip
(.ext 10))
(sq
(.blk 11 (sq
(rg [aI 132 5 128 130,
aN 133 5 132,
aO 16 (.zer 68 (.agg [(iP 0), (iP 0), (iP 0), (.list .nil 3 []), (.list .nil 3 [])])),
aZ (.st 5 (aT 16) (aT 133))] [14, 16, 128, 129, 130])
(sq
(rg [aN 134 9 14,
aN 135 5 16,
aP 136 59 [aT 135],
aP 137 61 [aT 134, aT 136],
aO 138 (.un .not (aT 137))] [14, 128, 129, 130, 138])
(cn 138
(sq
(rg [aC 2 8] [2])
.ret)
.skip))))
(rg [aK 139 .add 130 1,
aM 130 139] [14, 128, 129, 130]))))))))
(sq
(rg [aC 2 0] [2])
.ret)))))))))⟩
def pf23 : PFn := ⟨32, 1, [.tmp 2, .tmp 3], sq
(rg [aO 1 (.boxp 30 (aT 0)),
aU 2 false,
aC 3 0] [1])
(sq
(sq
(rg [aN 9 7 1,
aP 10 21 [aT 9],
aM 4 10] [1, 4])
(sq
(rg [aM 11 4,
aK 12 .neq 11 0] [1, 4, 12])
(cn 12
(sq
(rg [aM 13 4,
aU 2 false,
aM 3 13] [2, 3])
.ret)
.skip)))
(sq
(rg [aN 14 7 1,
aP 15 60 [aT 14],
aO 5 (.zer 90 (.agg [(iP 0), (iP 0), (.list .nil 1 []), (.list .nil 1 []), (.list .nil 4 []), (.list .nil 6 []), (.list .nil 5 []), .nilmap, .nilmap])),
aZ (.st 9 (aT 5) (aT 15))] [1, 5])
(sq
(sq
(rg [aF 16 6 1,
aL 17 16,
aG 18 17,
aC 19 0] [5, 17, 18, 19])
(.blk 0 (.loop (.trim (sq
(rg [aB 20 .lss 19 18] [5, 17, 18, 19, 20])
(sq
(cn 20
.skip
(.ext 0))
(sq
(.blk 1 (sq
(rg [aM 21 19,
aI 22 5 17 19,
aN 23 5 22,
aO 7 (.zer 68 (.agg [(iP 0), (iP 0), (iP 0), (.list .nil 3 []), (.list .nil 3 [])])),
aM 6 21,
aZ (.st 5 (aT 7) (aT 23))] [5, 6, 7, 17, 18, 19])
(sq
(rg [aN 24 9 5,
aM 25 6,
aP 26 69 [aT 24, aT 25],
aO 8 (.zer 97 .nilmap),
aZ (.st 1 (aT 8) (aT 26))] [5, 7, 8, 17, 18, 19])
(sq
(rg [aN 27 5 7,
aP 28 59 [aT 27],
aO 29 (.mkf (.func 71) [] [(aT 8)]),
aP 30 70 [aT 28, aT 29]] [5, 17, 18, 19, 30])
(cn 30
(sq
(rg [aU 2 false,
aC 3 0] [2, 3])
.ret)
.skip)))))
(rg [aK 31 .add 19 1,
aM 19 31] [5, 17, 18, 19]))))))))
(sq
(rg [aU 2 true,
aC 3 0] [2, 3])
.ret))))⟩
def pf25 : PFn := ⟨110, 3, [.cell 6 (some 7), .tmp 7, .tmp 8], sq
(rg [aO 3 (.boxp 30 (aT 0)),
aO 6 (.zer 30 (.agg [(iP 0), (iP 0), (.list .nil 1 []), (.list .nil 1 []), (.list .nil 4 []), (.list .nil 6 []), (.list .nil 5 [])])),
aC 7 0,
aC 8 0] [1, 2, 3, 6])
(sq
(sq
(rg [aN 16 7 3,
aM 17 1,
aP 18 75 [aT 16, aT 17],
aM 9 18] [1, 2, 3, 6, 9])
(sq
(rg [aM 19 9,
aK 20 .neq 19 0] [1, 2, 3, 6, 9, 20])
(cn 20
(sq
(rg [aO 21 (.bld [(iP 0), (iP 0), (.list .nil 1 []), (.list .nil 1 []), (.list .nil 4 []), (.list .nil 6 []), (.list .nil 5 [])] []),
aM 22 9,
aZ (.st 7 (aT 6) (aT 21)),
aC 7 0,
aM 8 22] [6, 7, 8])
.ret)
.skip)))
(sq
(rg [aN 23 7 3,
aO 24 (.call 76 .opn [(aT 23)]),
aO 10 (.zer 30 (.agg [(iP 0), (iP 0), (.list .nil 1 []), (.list .nil 1 []), (.list .nil 4 []), (.list .nil 6 []), (.list .nil 5 [])])),
aZ (.st 7 (aT 10) (aT 24))] [1, 2, 6, 10])
(sq
(rg [aF 25 6 10,
aL 26 25,
aM 27 1,
aI 28 5 26 27,
aM 11 28] [1, 2, 6, 10, 11])
(sq
(sq
(rg [aM 29 11,
aO 30 (.nck (aT 29)),
aF 31 3 30,
aL 32 31,
aG 33 32,
aK 34 .eql 33 0] [1, 2, 6, 10, 11, 34])
(cn 34
(sq
(rg [aN 35 7 10,
aZ (.st 7 (aT 6) (aT 35)),
aC 7 0,
aC 8 0] [6, 7, 8])
.ret)
.skip))
(sq
(rg [aM 36 11,
aO 37 (.nck (aT 36)),
aF 38 2 37,
aL 39 38,
aM 40 11,
aO 41 (.nck (aT 40)),
aF 42 1 41,
aL 43 42,
aB 44 .add 39 43,
aO 45 (.nck (aT 36)),
aF 46 2 45,
aZ (.st 1 (aT 46) (aT 44))] [1, 2, 6, 10, 11])
(sq
(.blk 0 (.loop (sq
(sq
(rg [aM 47 11,
aO 48 (.nck (aT 47)),
aF 49 2 48,
aL 50 49,
aK 51 .geq 50 192] [1, 2, 6, 10, 11, 51])
(cn 51
.skip
(.ext 0)))
(.blk 1 (sq
(rg [aN 53 7 10,
aM 54 1,
aM 55 2,
aP 56 77 [aT 53, aT 54, aT 55],
aM 52 56,
aE 57 0 52,
aE 58 1 52,
aE 59 2 52,
aO 12 (.zer 54 (.agg [(iP 0), (iP 0), (iP 0)])),
aZ (.st 3 (aT 12) (aT 57)),
aM 13 58,
aM 14 59] [1, 2, 6, 10, 11, 12, 13, 14])
(sq
(sq
(rg [aM 60 14,
aK 61 .neq 60 0] [1, 2, 6, 10, 11, 12, 13, 14, 61])
(cn 61
(sq
(rg [aM 62 11,
aM 63 11,
aO 64 (.nck (aT 62)),
aF 65 2 64,
aZ (.st 1 (aT 65) (cI 191)),
aO 66 (.nck (aT 63)),
aF 67 1 66,
aZ (.st 1 (aT 67) (cI 0))] [6, 10, 14])
(sq
(rg [aN 68 7 10,
aM 69 14,
aZ (.st 7 (aT 6) (aT 68)),
aM 7 69,
aC 8 0] [6, 7, 8])
.ret))
.skip))
(sq
(rg [aN 70 3 12,
aO 71 (.bsl 1 3 [(iP 0), (iP 0), (iP 0)] [(0, 3, (aT 70))]),
aM 72 11,
aO 73 (.nck (aT 72)),
aF 74 3 73,
aL 75 74,
aO 76 (.app 54 3 24 (aT 71) (aT 75)),
aM 15 76] [1, 2, 6, 10, 11, 12, 13, 15])
(sq
(rg [aM 77 11,
aM 78 15,
aM 79 15,
aG 80 79,
aM 81 11,
aO 82 (.nck (aT 81)),
aF 83 0 82,
aL 84 83,
aO 85 (.mn (aT 80) [(aT 84)]),
aO 86 (.slc 3 (aT 78) none (some (aT 85)) none),
aO 87 (.nck (aT 77)),
aF 88 3 87,
aZ (.st 1 (aT 88) (aT 86))] [1, 2, 6, 10, 11, 12, 13])
(sq
(rg [aM 89 11,
aM 90 13,
aP 91 78 [aT 90],
aO 92 (.nck (aT 89)),
aF 93 4 92,
aZ (.st 1 (aT 93) (aT 91))] [1, 2, 6, 10, 11, 12])
(sq
(rg [aM 94 11,
aO 95 (.nck (aT 94)),
aF 96 2 95,
aL 97 96,
aK 98 .sub 97 192,
aO 99 (.nck (aT 94)),
aF 100 2 99,
aZ (.st 1 (aT 100) (aT 98))] [1, 2, 6, 10, 11, 12])
(sq
(rg [aM 101 2,
aF 102 0 12,
aL 103 102,
aP 104 79 [aT 101, aT 103]] [1, 2, 6, 10, 11, 104])
(cn 104
(sq
(rg [aM 105 11,
aO 106 (.nck (aT 105)),
aF 107 2 106,
aZ (.st 1 (aT 107) (cI 0))] [6, 10])
(sq
(rg [aN 108 7 10,
aZ (.st 7 (aT 6) (aT 108)),
aC 7 3,
aC 8 0] [6, 7, 8])
.ret))
.skip))))))))))))
(sq
(rg [aN 109 7 10,
aZ (.st 7 (aT 6) (aT 109)),
aC 7 0,
aC 8 0] [6, 7, 8])
.ret)))))))⟩
def pf28 : PFn := ⟨95, 2, [.tmp 4, .tmp 5], sq
(rg [aO 2 (.boxp 30 (aT 0)),
aO 4 (.mv (.val (.list .nil 1 []))),
aC 5 0] [1, 2])
(sq
(sq
(rg [aN 18 7 2,
aP 19 21 [aT 18],
aM 6 19] [1, 2, 6])
(sq
(rg [aM 20 6,
aK 21 .neq 20 0] [1, 2, 6, 21])
(cn 21
(sq
(rg [aM 22 6,
aO 4 (.mv (.val (.list .nil 1 []))),
aM 5 22] [4, 5])
.ret)
.skip)))
(sq
(sq
(rg [aM 23 1,
aG 24 23,
aF 25 6 2,
aL 26 25,
aG 27 26,
aB 28 .neq 24 27] [1, 2, 28])
(cn 28
(sq
(rg [aO 4 (.mv (.val (.list .nil 1 []))),
aC 5 8] [4, 5])
.ret)
.skip))
(sq
(rg [aF 29 6 2,
aL 30 29,
aG 31 30,
aO 32 (.mks 3 1 8 [(iP 0)] (aT 31) (aT 31)),
aM 7 32] [1, 2, 7])
(sq
(sq
(rg [aF 33 6 2,
aL 34 33,
aG 35 34,
aC 36 0] [1, 2, 7, 34, 35, 36])
(.blk 0 (.loop (.trim (sq
(rg [aB 37 .lss 36 35] [1, 2, 7, 34, 35, 36, 37])
(sq
(cn 37
.skip
(.ext 0))
(sq
(.blk 1 (sq
(rg [aM 38 36,
aI 39 5 34 36,
aN 40 5 39,
aO 9 (.zer 68 (.agg [(iP 0), (iP 0), (iP 0), (.list .nil 3 []), (.list .nil 3 [])])),
aM 8 38,
aZ (.st 5 (aT 9) (aT 40))] [1, 2, 7, 8, 9, 34, 35, 36])
(sq
(rg [aM 41 7,
aM 42 8,
aI 43 1 41 42,
aZ (.st 1 (aT 43) (cI (-1)))] [1, 2, 7, 8, 9, 34, 35, 36])
(sq
(sq
(rg [aF 44 3 9,
aL 45 44,
aG 46 45,
aK 47 .eql 46 0] [1, 2, 7, 8, 9, 34, 35, 36, 47])
(cn 47
(.ext 1)
.skip))
(sq
(rg [aN 48 7 2,
aO 49 (.call 76 .opn [(aT 48)]),
aO 10 (.zer 30 (.agg [(iP 0), (iP 0), (.list .nil 1 []), (.list .nil 1 []), (.list .nil 4 []), (.list .nil 6 []), (.list .nil 5 [])])),
aZ (.st 7 (aT 10) (aT 49))] [1, 2, 7, 8, 9, 10, 34, 35, 36])
(sq
(rg [aF 50 6 10,
aL 51 50,
aM 52 8,
aI 53 5 51 52,
aF 54 1 53,
aZ (.st 1 (aT 54) (cI 192))] [1, 2, 7, 8, 9, 10, 34, 35, 36])
(sq
(sq
(.reg [aN 56 7 10,
aM 57 8,
aM 58 1,
aM 59 8,
aI 60 1 58 59,
aL 61 60,
aP 62 25 [aT 56, aT 57, aT 61],
aM 55 62,
aE 63 0 55,
aE 64 1 55,
aE 65 2 55,
aO 11 (.zer 30 (.agg [(iP 0), (iP 0), (.list .nil 1 []), (.list .nil 1 []), (.list .nil 4 []), (.list .nil 6 []), (.list .nil 5 [])])),
aZ (.st 7 (aT 11) (aT 63)),
aM 12 64,
aM 13 65] [(0, 11), (0, 12), (5, 11), (5, 12), (6, 11), (6, 12)] [1, 2, 7, 8, 9, 12, 34, 35, 36])
(sq
(rg [aM 66 12,
aK 67 .neq 66 1] [1, 2, 7, 8, 9, 34, 35, 36, 67])
(cn 67
(.ext 1)
.skip)))
(sq
(rg [aN 68 5 9,
aP 69 84 [aT 68],
aO 14 (.zer 54 (.agg [(iP 0), (iP 0), (iP 0)])),
aZ (.st 3 (aT 14) (aT 69))] [1, 2, 7, 8, 14, 34, 35, 36])
(sq
(rg [aN 70 7 2,
aP 71 60 [aT 70],
aO 15 (.zer 90 (.agg [(iP 0), (iP 0), (.list .nil 1 []), (.list .nil 1 []), (.list .nil 4 []), (.list .nil 6 []), (.list .nil 5 []), .nilmap, .nilmap])),
aZ (.st 9 (aT 15) (aT 71))] [1, 2, 7, 8, 14, 15, 34, 35, 36])
(sq
(.reg [aN 73 9 15,
aM 74 8,
aN 75 3 14,
aM 76 1,
aM 77 8,
aI 78 1 76 77,
aL 79 78,
aP 80 85 [aT 73, aT 74, aT 75, aT 79],
aN 81 3 14,
aP 82 86 [aT 80, aT 81],
aM 72 82,
aE 83 0 72,
aE 84 1 72,
aO 16 (.zer 54 (.agg [(iP 0), (iP 0), (iP 0)])),
aZ (.st 3 (aT 16) (aT 83)),
aM 17 84] [(0, 13), (0, 14), (2, 13), (2, 14), (6, 13), (6, 14), (7, 13), (7, 14), (8, 13), (8, 14), (9, 13), (9, 14)] [1, 2, 7, 8, 15, 16, 17, 34, 35, 36])
(sq
(rg [aM 85 17] [1, 2, 7, 8, 15, 16, 34, 35, 36, 85])
(cn 85
(rg [aM 86 7,
aM 87 8,
aN 88 9 15,
aM 89 8,
aN 90 3 16,
aP 91 87 [aT 88, aT 89, aT 90],
aI 92 1 86 87,
aZ (.st 1 (aT 92) (aT 91))] [1, 2, 7, 34, 35, 36])
.skip))))))))))))
(rg [aK 93 .add 36 1,
aM 36 93] [1, 2, 7, 34, 35, 36]))))))))
(sq
(rg [aM 94 7,
aM 4 94,
aC 5 0] [4, 5])
.ret)))))⟩
def pf30 : PFn := ⟨26, 2, [.tmp 4], sq
(rg [aU 4 false] [0, 1])
(sq
(sq
(rg [aM 6 0,
aG 7 6,
aM 8 1,
aG 9 8,
aB 10 .neq 7 9] [0, 1, 10])
(cn 10
(sq
(rg [aU 4 false] [4])
.ret)
.skip))
(sq
(sq
(rg [aC 5 0] [0, 1, 5])
(.blk 0 (.loop (sq
(sq
(rg [aM 11 5,
aM 12 0,
aG 13 12,
aB 14 .lss 11 13] [0, 1, 5, 14])
(cn 14
.skip
(.ext 0)))
(sq
(.blk 1 (sq
(rg [aM 17 0,
aM 18 5,
aI 19 1 17 18,
aL 20 19,
aM 21 1,
aM 22 5,
aI 23 1 21 22,
aL 24 23,
aB 25 .neq 20 24] [0, 1, 5, 25])
(cn 25
(sq
(rg [aU 4 false] [4])
.ret)
.skip)))
(rg [aM 15 5,
aK 16 .add 15 1,
aM 5 16] [0, 1, 5]))))))
(sq
(rg [aU 4 true] [4])
.ret)))⟩
def pf31 : PFn := ⟨55, 1, [.tmp 2, .tmp 3], sq
(rg [aO 2 (.mv (.val (.list .nil 1 []))),
aC 3 0] [0])
(sq
(sq
(rg [aM 9 0,
aG 10 9,
aC 11 0] [0, 9, 10, 11])
(.blk 0 (.loop (sq
(rg [aB 12 .lss 11 10] [0, 9, 10, 11, 12])
(sq
(cn 12
.skip
(.ext 0))
(sq
(.blk 1 (sq
(rg [aI 13 1 9 11,
aL 14 13,
aM 5 14] [0, 5, 9, 10, 11])
(sq
(rg [aM 15 5,
aK 16 .lss 15 (-1),
aM 17 16,
bM 18 17 false 5,
bM 19 17 false 0,
bO 20 17 false (.len (aT 19)),
bO 21 17 false (.bin .geq (aT 18) (aT 20)),
aO 22 (.pick (aT 17) (.val (.bool true)) (aT 21))] [0, 9, 10, 11, 22])
(cn 22
(sq
(rg [aO 2 (.mv (.val (.list .nil 1 []))),
aC 3 1] [2, 3])
.ret)
.skip))))
(rg [aK 23 .add 11 1,
aM 11 23] [0, 9, 10, 11])))))))
(sq
(rg [aO 6 (.nacc 3 1)] [0, 6])
(sq
(sq
(rg [aM 24 0,
aG 25 24,
aC 26 0] [0, 6, 25, 26])
(.blk 2 (.loop (sq
(rg [aB 27 .lss 26 25] [0, 6, 25, 26, 27])
(sq
(cn 27
.skip
(.ext 2))
(sq
(.blk 3 (sq
(rg [aM 28 26,
aM 7 28] [0, 6, 7, 25, 26])
(sq
(rg [aM 29 7,
aM 8 29] [0, 6, 7, 8, 25, 26])
(sq
(sq
(rg [aM 30 0,
aG 31 30,
aC 32 0] [0, 6, 7, 8, 25, 26, 31, 32])
(.blk 4 (.loop (sq
(rg [aB 33 .lss 32 31] [0, 6, 7, 8, 25, 26, 31, 32, 33])
(sq
(cn 33
.skip
(.ext 4))
(sq
(.blk 5 (sq
(rg [aM 34 0,
aM 35 8,
aI 36 1 34 35,
aL 37 36,
aM 8 37] [0, 6, 7, 8, 25, 26, 31, 32])
(sq
(rg [aM 38 8,
aK 39 .lss 38 0,
aM 40 39,
bM 41 40 false 8,
bM 42 40 false 7,
bO 43 40 false (.bin .eql (aT 41) (aT 42)),
aO 44 (.pick (aT 40) (.val (.bool true)) (aT 43))] [0, 6, 7, 8, 25, 26, 31, 32, 44])
(cn 44
(.ext 4)
.skip))))
(rg [aK 45 .add 32 1,
aM 32 45] [0, 6, 7, 8, 25, 26, 31, 32])))))))
(sq
(rg [aM 46 8,
aM 47 7,
aB 48 .eql 46 47] [0, 6, 7, 25, 26, 48])
(cn 48
(rg [aM 49 6,
aM 50 7,
aO 51 (.bsl 1 1 [(iP 0)] [(0, 1, (aT 50))]),
aO 52 (.app 3 1 8 (aT 49) (aT 51)),
aM 6 52] [0, 6, 25, 26])
.skip))))))
(rg [aK 53 .add 26 1,
aM 26 53] [0, 6, 25, 26])))))))
(sq
(rg [aM 54 6,
aM 2 54,
aC 3 0] [2, 3])
.ret))))⟩
def pf32 : PFn := ⟨58, 1, [.tmp 2, .tmp 3], sq
(rg [aO 2 (.mv (.val (.list .nil 1 []))),
aC 3 0] [0])
(sq
(sq
(rg [aM 9 0,
aG 10 9,
aC 11 0] [0, 9, 10, 11])
(.blk 0 (.loop (sq
(rg [aB 12 .lss 11 10] [0, 9, 10, 11, 12])
(sq
(cn 12
.skip
(.ext 0))
(sq
(.blk 1 (sq
(rg [aI 13 1 9 11,
aL 14 13,
aM 5 14] [0, 5, 9, 10, 11])
(sq
(rg [aM 15 5,
aK 16 .lss 15 (-1),
aM 17 16,
bM 18 17 false 5,
bM 19 17 false 0,
bO 20 17 false (.len (aT 19)),
bO 21 17 false (.bin .geq (aT 18) (aT 20)),
aO 22 (.pick (aT 17) (.val (.bool true)) (aT 21))] [0, 9, 10, 11, 22])
(cn 22
(sq
(rg [aO 2 (.mv (.val (.list .nil 1 []))),
aC 3 1] [2, 3])
.ret)
.skip))))
(rg [aK 23 .add 11 1,
aM 11 23] [0, 9, 10, 11])))))))
(sq
(rg [aO 6 (.nacc 3 1)] [0, 6])
(sq
(sq
(rg [aM 24 0,
aG 25 24,
aC 26 0] [0, 6, 25, 26])
(.blk 2 (.loop (sq
(rg [aB 27 .lss 26 25] [0, 6, 25, 26, 27])
(sq
(cn 27
.skip
(.ext 2))
(sq
(.blk 3 (sq
(rg [aM 28 26,
aM 7 28] [0, 6, 7, 25, 26])
(sq
(rg [aM 29 0,
aM 30 7,
aI 31 1 29 30,
aL 32 31,
aM 8 32] [0, 6, 7, 8, 25, 26])
(sq
(sq
(rg [aM 33 0,
aG 34 33,
aC 35 0] [0, 6, 7, 8, 25, 26, 34, 35])
(.blk 4 (.loop (sq
(rg [aB 36 .lss 35 34] [0, 6, 7, 8, 25, 26, 34, 35, 36])
(sq
(cn 36
.skip
(.ext 4))
(sq
(.blk 5 (sq
(sq
(rg [aM 37 8,
aK 38 .lss 37 0,
aM 39 38,
bM 40 39 false 8,
bM 41 39 false 7,
bO 42 39 false (.bin .eql (aT 40) (aT 41)),
aO 43 (.pick (aT 39) (.val (.bool true)) (aT 42))] [0, 6, 7, 8, 25, 26, 34, 35, 43])
(cn 43
(.ext 4)
.skip))
(rg [aM 44 0,
aM 45 8,
aI 46 1 44 45,
aL 47 46,
aM 8 47] [0, 6, 7, 8, 25, 26, 34, 35])))
(rg [aK 48 .add 35 1,
aM 35 48] [0, 6, 7, 8, 25, 26, 34, 35])))))))
(sq
(rg [aM 49 8,
aM 50 7,
aB 51 .eql 49 50] [0, 6, 7, 25, 26, 51])
(cn 51
(rg [aM 52 6,
aM 53 7,
aO 54 (.bsl 1 1 [(iP 0)] [(0, 1, (aT 53))]),
aO 55 (.app 3 1 8 (aT 52) (aT 54)),
aM 6 55] [0, 6, 25, 26])
.skip))))))
(rg [aK 56 .add 26 1,
aM 26 56] [0, 6, 25, 26])))))))
(sq
(rg [aM 57 6,
aM 2 57,
aC 3 0] [2, 3])
.ret))))⟩
def pf33 : PFn := ⟨17, 2, [.tmp 4], sq
(rg [aU 4 false] [0, 1])
(sq
(sq
(rg [aM 7 0,
aG 8 7,
aC 9 0] [1, 7, 8, 9])
(.blk 0 (.loop (sq
(rg [aB 10 .lss 9 8] [1, 7, 8, 9, 10])
(sq
(cn 10
.skip
(.ext 0))
(sq
(.blk 1 (sq
(rg [aI 11 1 7 9,
aL 12 11,
aM 6 12] [1, 6, 7, 8, 9])
(sq
(rg [aM 13 6,
aM 14 1,
aB 15 .eql 13 14] [1, 7, 8, 9, 15])
(cn 15
(sq
(rg [aU 4 true] [4])
.ret)
.skip))))
(rg [aK 16 .add 9 1,
aM 9 16] [1, 7, 8, 9])))))))
(sq
(rg [aU 4 false] [4])
.ret))⟩
def pf53 : PFn := ⟨25, 0, [.cell 0 (some 7)], sq
(rg [aO 0 (.zer 30 (.agg [(iP 0), (iP 0), (.list .nil 1 []), (.list .nil 1 []), (.list .nil 4 []), (.list .nil 6 []), (.list .nil 5 [])]))] [0])
(sq
(rg [aO 3 (.mks 3 1 8 [(iP 0)] (cI 16) (cI 16)),
aO 4 (.mks 4 1 1 [(.bool false)] (cI 16) (cI 16)),
aO 5 (.bld [(iP 0), (iP 0), (.list .nil 1 []), (.list .nil 1 [])] [(0, 1, (cI 4)), (1, 1, (cI 4)), (2, 1, (aT 3)), (3, 1, (aT 4))]),
aO 6 (.bld [(iP 0), (iP 0), (.list .nil 1 []), (.list .nil 1 []), (.list .nil 4 []), (.list .nil 6 []), (.list .nil 5 [])] [(0, 4, (aT 5))]),
aO 1 (.zer 30 (.agg [(iP 0), (iP 0), (.list .nil 1 []), (.list .nil 1 []), (.list .nil 4 []), (.list .nil 6 []), (.list .nil 5 [])])),
aZ (.st 7 (aT 1) (aT 6))] [0, 1])
(sq
(sq
(rg [aC 7 0] [0, 1, 7])
(.blk 0 (.loop (sq
(rg [aK 8 .lss 7 4] [0, 1, 7, 8])
(sq
(cn 8
.skip
(.ext 0))
(sq
(.blk 1 (sq
(rg [aM 9 7,
aM 2 9] [0, 1, 2, 7])
(rg [aF 10 0 1,
aF 11 2 10,
aL 12 11,
aM 13 2,
aI 14 1 12 13,
aZ (.st 1 (aT 14) (cI 1))] [0, 1, 7])))
(rg [aK 15 .add 7 1,
aM 7 15] [0, 1, 7])))))))
(sq
(rg [aO 16 (.bld [(iP 0), (iP 0), (iP 0)] [(0, 1, (cI 0)), (1, 1, (cI 0)), (2, 1, (cI 0))]),
aO 17 (.bsl 1 3 [(iP 0), (iP 0), (iP 0)] [(0, 3, (aT 16))]),
aO 18 (.bld [(iP 0), (iP 0), (iP 0), (.list .nil 3 []), (.list .nil 3 [])] [(0, 1, (cI 1)), (1, 1, (cI 192)), (3, 1, (aT 17))]),
aO 19 (.bld [(iP 0), (iP 0), (iP 0)] [(0, 1, (cI 3)), (1, 1, (cI 0)), (2, 1, (cI 2))]),
aO 20 (.bsl 1 3 [(iP 0), (iP 0), (iP 0)] [(0, 3, (aT 19))]),
aO 21 (.bld [(iP 0), (iP 0), (iP 0), (.list .nil 3 []), (.list .nil 3 [])] [(0, 1, (cI 1)), (1, 1, (cI 192)), (3, 1, (aT 20))]),
aO 22 (.bsl 2 5 [(iP 0), (iP 0), (iP 0), (.list .nil 3 []), (.list .nil 3 [])] [(0, 5, (aT 18)), (5, 5, (aT 21))]),
aF 23 6 1,
aZ (.st 1 (aT 23) (aT 22))] [0, 1])
(sq
(rg [aN 24 7 1,
aZ (.st 7 (aT 0) (aT 24))] [0])
.ret))))⟩
def pf54 : PFn := ⟨70, 2, [.tmp 4], sq
(rg [aO 2 (.boxp 25 (aT 0)),
aC 4 0] [1, 2])
(sq
(sq
(rg [aN 10 4 2,
aP 11 104 [aT 10],
aM 5 11] [1, 2, 5])
(sq
(rg [aM 12 5,
aK 13 .neq 12 0] [1, 2, 5, 13])
(cn 13
(sq
(rg [aM 14 5,
aM 4 14] [4])
.ret)
.skip)))
(sq
(sq
(rg [aM 15 1,
aG 16 15,
aC 17 0] [1, 2, 15, 16, 17])
(.blk 0 (.loop (.trim (sq
(rg [aB 18 .lss 17 16] [1, 2, 15, 16, 17, 18])
(sq
(cn 18
.skip
(.ext 0))
(sq
(.blk 1 (sq
(rg [aM 19 17,
aI 20 4 15 17,
aN 21 4 20,
aO 7 (.zer 75 (.agg [(iP 0), (iP 0), (iP 0), (iP 0)])),
aM 6 19,
aZ (.st 4 (aT 7) (aT 21))] [1, 2, 6, 7, 15, 16, 17])
(sq
(rg [aF 22 3 7,
aL 23 22,
aK 24 .lss 23 0,
aM 25 24,
bF 26 25 false 3 7,
bL 27 25 false 26,
bO 28 25 false (.bin .geq (aT 27) (cI 6)),
aO 29 (.pick (aT 25) (.val (.bool true)) (aT 28)),
aM 30 29,
bM 31 30 false 6,
bO 32 30 false (.bin .gtr (aT 31) (cI 0)),
bM 33 30 false 32,
bM 34 33 true 1,
bM 35 33 true 6,
bO 36 33 true (.bin .sub (aT 35) (cI 1)),
bO 37 33 true (.iaS 4 (aT 34) (aT 36)),
bN 38 33 true 4 37,
bN 39 33 true 4 7,
bO 40 33 true (.call 105 .pure [(aT 38), (aT 39)]),
bO 41 33 true (.bin .geq (aT 40) (cI 0)),
bO 42 30 false (.pick (aT 33) (aT 41) (.val (.bool false))),
aO 43 (.pick (aT 30) (.val (.bool true)) (aT 42))] [1, 2, 15, 16, 17, 43])
(cn 43
(sq
(rg [aC 4 1] [4])
.ret)
.skip))))
(rg [aK 44 .add 17 1,
aM 17 44] [1, 2, 15, 16, 17]))))))))
(sq
(sq
(rg [aM 45 1,
aG 46 45,
aK 47 .gtr 46 300] [1, 2, 47])
(cn 47
(sq
(rg [aC 4 1] [4])
.ret)
.skip))
(sq
(sq
(rg [aM 48 1,
aG 49 48,
aC 50 0] [2, 48, 49, 50])
(.blk 2 (.loop (.trim (sq
(rg [aB 51 .lss 50 49] [2, 48, 49, 50, 51])
(sq
(cn 51
.skip
(.ext 2))
(sq
(.blk 3 (sq
(rg [aI 52 4 48 50,
aN 53 4 52,
aO 9 (.zer 75 (.agg [(iP 0), (iP 0), (iP 0), (iP 0)])),
aZ (.st 4 (aT 9) (aT 53))] [2, 9, 48, 49, 50])
(sq
(rg [aN 54 4 2,
aF 55 0 9,
aL 56 55,
aF 57 1 9,
aL 58 57,
aP 59 106 [aT 54, aT 56, aT 58],
aO 60 (.un .not (aT 59)),
aM 61 60,
bF 62 61 false 1 9,
bL 63 61 false 62,
bF 64 61 false 2 9,
bL 65 61 false 64,
bO 66 61 false (.call 107 .pure [(aT 63), (aT 65)]),
bO 67 61 false (.un .not (aT 66)),
aO 68 (.pick (aT 61) (.val (.bool true)) (aT 67))] [2, 48, 49, 50, 68])
(cn 68
(sq
(rg [aC 4 2] [4])
.ret)
.skip))))
(rg [aK 69 .add 50 1,
aM 50 69] [2, 48, 49, 50]))))))))
(sq
(rg [aC 4 0] [4])
.ret)))))⟩
def pf55 : PFn := ⟨18, 1, [.tmp 2], sq
(rg [aC 2 0] [0])
(sq
(rg [aC 3 0] [0, 3])
(sq
(sq
(rg [aM 6 0,
aG 7 6,
aC 8 0] [3, 6, 7, 8])
(.blk 0 (.loop (sq
(rg [aB 9 .lss 8 7] [3, 6, 7, 8, 9])
(sq
(cn 9
.skip
(.ext 0))
(sq
(.blk 1 (sq
(rg [aI 10 1 6 8,
aL 11 10,
aM 5 11] [3, 5, 6, 7, 8])
(sq
(rg [aM 12 5,
aM 13 3,
aB 14 .neq 12 13] [3, 5, 6, 7, 8, 14])
(cn 14
(sq
(rg [aM 15 5,
aM 2 15] [2])
.ret)
.skip))))
(rg [aK 16 .add 8 1,
aM 8 16] [3, 6, 7, 8])))))))
(sq
(rg [aM 17 3,
aM 2 17] [2])
.ret)))⟩
def pf56 : PFn := ⟨22, 2, [.tmp 4], sq
(rg [aO 2 (.boxp 54 (aT 0)),
aO 3 (.boxp 54 (aT 1)),
aC 4 0] [2, 3])
(sq
(rg [aF 5 0 2,
aL 6 5,
aF 7 0 3,
aL 8 7,
aP 9 108 [aT 6, aT 8],
aF 10 1 2,
aL 11 10,
aF 12 1 3,
aL 13 12,
aP 14 108 [aT 11, aT 13],
aF 15 2 2,
aL 16 15,
aF 17 2 3,
aL 18 17,
aP 19 108 [aT 16, aT 18],
aO 20 (.bsl 3 1 [(iP 0)] [(0, 1, (aT 9)), (1, 1, (aT 14)), (2, 1, (aT 19))]),
aP 21 55 [aT 20],
aM 4 21] [4])
.ret)⟩
def pf57 : PFn := ⟨57, 1, [.tmp 2], sq
(rg [aO 1 (.boxp 68 (aT 0)),
aU 2 false] [1])
(sq
(rg [aF 3 0 1,
aL 4 3,
aK 5 .geq 4 1,
aM 6 5,
bF 7 6 true 0 1,
bL 8 6 true 7,
bO 9 6 true (.bin .leq (aT 8) (cI 20)),
aO 10 (.pick (aT 6) (aT 9) (.val (.bool false))),
aM 11 10,
bF 12 11 true 1 1,
bL 13 11 true 12,
bO 14 11 true (.bin .geq (aT 13) (cI 0)),
aO 15 (.pick (aT 11) (aT 14) (.val (.bool false))),
aM 16 15,
bF 17 16 true 1 1,
bL 18 16 true 17,
bO 19 16 true (.bin .leq (aT 18) (cI 192)),
aO 20 (.pick (aT 16) (aT 19) (.val (.bool false))),
aM 21 20,
bF 22 21 true 2 1,
bL 23 21 true 22,
bO 24 21 true (.bin .geq (aT 23) (cI 0)),
aO 25 (.pick (aT 21) (aT 24) (.val (.bool false))),
aM 26 25,
bF 27 26 true 2 1,
bL 28 26 true 27,
bO 29 26 true (.bin .lss (aT 28) (cI 192)),
aO 30 (.pick (aT 26) (aT 29) (.val (.bool false))),
aM 31 30,
bF 32 31 true 3 1,
bL 33 31 true 32,
bO 34 31 true (.len (aT 33)),
bF 35 31 true 0 1,
bL 36 31 true 35,
bO 37 31 true (.bin .leq (aT 34) (aT 36)),
aO 38 (.pick (aT 31) (aT 37) (.val (.bool false))),
aM 39 38,
bF 40 39 true 4 1,
bL 41 39 true 40,
bO 42 39 true (.len (aT 41)),
bO 43 39 true (.bin .leq (aT 42) (cI 60)),
aO 44 (.pick (aT 39) (aT 43) (.val (.bool false))),
aM 45 44,
bF 46 45 true 3 1,
bL 47 45 true 46,
bO 48 45 true (.len (aT 47)),
bO 49 45 true (.bin .gtr (aT 48) (cI 0)),
bM 50 45 true 49,
bF 51 50 false 4 1,
bL 52 50 false 51,
bO 53 50 false (.len (aT 52)),
bO 54 50 false (.bin .eql (aT 53) (cI 0)),
bO 55 45 true (.pick (aT 50) (.val (.bool true)) (aT 54)),
aO 56 (.pick (aT 45) (aT 55) (.val (.bool false))),
aM 2 56] [2])
.ret)⟩
def pf58 : PFn := ⟨57, 2, [.tmp 4], sq
(rg [aO 2 (.boxp 25 (aT 0)),
aO 3 (.boxp 54 (aT 1)),
aU 4 false] [2, 3])
(sq
(sq
(rg [aF 7 0 3,
aL 8 7,
aK 9 .lss 8 0,
aM 10 9,
bF 11 10 false 0 3,
bL 12 10 false 11,
bF 13 10 false 2 2,
bL 14 10 false 13,
bO 15 10 false (.len (aT 14)),
bO 16 10 false (.bin .geq (aT 12) (aT 15)),
aO 17 (.pick (aT 10) (.val (.bool true)) (aT 16)),
aM 18 17,
bF 19 18 false 1 3,
bL 20 18 false 19,
bO 21 18 false (.bin .lss (aT 20) (cI 0)),
aO 22 (.pick (aT 18) (.val (.bool true)) (aT 21)),
aM 23 22,
bF 24 23 false 1 3,
bL 25 23 false 24,
bO 26 23 false (.bin .gtr (aT 25) (cI 5)),
aO 27 (.pick (aT 23) (.val (.bool true)) (aT 26)),
aM 28 27,
bF 29 28 false 2 2,
bL 30 28 false 29,
bF 31 28 false 0 3,
bL 32 28 false 31,
bO 33 28 false (.iaS 1 (aT 30) (aT 32)),
bL 34 28 false 33,
bF 35 28 false 1 3,
bL 36 28 false 35,
bO 37 28 false (.bin .shr (aT 34) (aT 36)),
bO 38 28 false (.bin .and (aT 37) (cI 1)),
bO 39 28 false (.bin .eql (aT 38) (cI 0)),
aO 40 (.pick (aT 28) (.val (.bool true)) (aT 39))] [3, 40])
(cn 40
(sq
(rg [aU 4 false] [4])
.ret)
.skip))
(sq
(rg [aF 42 1 3,
aL 43 42,
aP 44 102 [aT 43],
aM 41 44,
aE 45 0 41,
aE 46 1 41,
aM 5 45,
aM 6 46] [3, 5, 6])
(sq
(rg [aF 47 2 3,
aL 48 47,
aM 49 5,
aB 50 .eql 48 49,
aM 51 50,
bF 52 51 false 2 3,
bL 53 51 false 52,
bM 54 51 false 6,
bO 55 51 false (.bin .eql (aT 53) (aT 54)),
aO 56 (.pick (aT 51) (.val (.bool true)) (aT 55)),
aM 4 56] [4])
.ret)))⟩
def pf59 : PFn := ⟨13, 1, [.tmp 2], sq
(rg [aO 1 (.boxp 68 (aT 0)),
aO 2 (.mv (.val (.list .nil 3 [])))] [1])
(sq
(rg [aF 4 3 1,
aL 5 4,
aO 6 (.call 78 .opn [(aT 5)]),
aM 3 6] [1, 3])
(sq
(rg [aM 7 3,
aO 8 (.call 109 .opn [(aT 7)])] [1, 3])
(sq
(rg [aM 9 3,
aF 10 4 1,
aL 11 10,
aO 12 (.app 54 3 24 (aT 9) (aT 11)),
aM 2 12] [2])
.ret)))⟩
def pf60 : PFn := ⟨51, 1, [.cell 2 (some 9)], sq
(rg [aO 1 (.boxp 30 (aT 0)),
aO 2 (.zer 90 (.agg [(iP 0), (iP 0), (.list .nil 1 []), (.list .nil 1 []), (.list .nil 4 []), (.list .nil 6 []), (.list .nil 5 []), .nilmap, .nilmap]))] [1, 2])
(sq
(rg [aN 8 7 1,
aO 9 (.mkm (some 3)),
aO 10 (.mkm (some 3)),
aO 11 (.bld [(iP 0), (iP 0), (.list .nil 1 []), (.list .nil 1 []), (.list .nil 4 []), (.list .nil 6 []), (.list .nil 5 []), .nilmap, .nilmap] [(0, 7, (aT 8)), (7, 1, (aT 9)), (8, 1, (aT 10))]),
aO 3 (.zer 90 (.agg [(iP 0), (iP 0), (.list .nil 1 []), (.list .nil 1 []), (.list .nil 4 []), (.list .nil 6 []), (.list .nil 5 []), .nilmap, .nilmap])),
aZ (.st 9 (aT 3) (aT 11))] [1, 2, 3])
(sq
(sq
(rg [aF 12 4 1,
aL 13 12,
aG 14 13,
aC 15 0] [1, 2, 3, 13, 14, 15])
(.blk 0 (.loop (sq
(rg [aB 16 .lss 15 14] [1, 2, 3, 13, 14, 15, 16])
(sq
(cn 16
.skip
(.ext 0))
(sq
(.blk 1 (sq
(rg [aI 17 4 13 15,
aN 18 4 17,
aO 5 (.zer 75 (.agg [(iP 0), (iP 0), (iP 0), (iP 0)])),
aZ (.st 4 (aT 5) (aT 18))] [1, 2, 3, 5, 13, 14, 15])
(rg [aF 19 7 3,
aL 20 19,
aF 21 0 5,
aL 22 21,
aF 23 1 5,
aL 24 23,
aF 25 2 5,
aL 26 25,
aO 27 (.bld [(iP 0), (iP 0), (iP 0)] [(0, 1, (aT 22)), (1, 1, (aT 24)), (2, 1, (aT 26))]),
aF 28 3 5,
aL 29 28,
aZ (.mup (some 3) (aT 20) (aT 27) (aT 29))] [1, 2, 3, 13, 14, 15])))
(rg [aK 30 .add 15 1,
aM 15 30] [1, 2, 3, 13, 14, 15])))))))
(sq
(sq
(rg [aF 31 5 1,
aL 32 31,
aG 33 32,
aC 34 0] [2, 3, 32, 33, 34])
(.blk 2 (.loop (sq
(rg [aB 35 .lss 34 33] [2, 3, 32, 33, 34, 35])
(sq
(cn 35
.skip
(.ext 2))
(sq
(.blk 3 (sq
(rg [aI 36 6 32 34,
aN 37 6 36,
aO 7 (.zer 78 (.agg [(iP 0), (iP 0), (iP 0), (iP 0), (iP 0), (iP 0)])),
aZ (.st 6 (aT 7) (aT 37))] [2, 3, 7, 32, 33, 34])
(rg [aF 38 8 3,
aL 39 38,
aF 40 0 7,
aN 41 3 40,
aF 43 3 7,
aN 44 3 43,
aO 45 (.bsl 1 3 [(iP 0), (iP 0), (iP 0)] [(0, 3, (aT 44))]),
aO 46 (.mpe (some 3) (.list .nil 3 []) (aT 39) (aT 41)),
aE 42 0 46,
aO 47 (.app 54 3 24 (aT 42) (aT 45)),
aE 48 1 46,
aZ (.est (some 3) (aT 39) (aT 48) (aT 47))] [2, 3, 32, 33, 34])))
(rg [aK 49 .add 34 1,
aM 34 49] [2, 3, 32, 33, 34])))))))
(sq
(rg [aN 50 9 3,
aZ (.st 9 (aT 2) (aT 50))] [2])
.ret))))⟩
def pf61 : PFn := ⟨43, 2, [.tmp 4], sq
(rg [aO 2 (.boxp 90 (aT 0)),
aU 4 false] [1, 2])
(sq
(rg [aO 9 (.mkm (some 2)),
aM 5 9] [1, 2, 5])
(sq
(sq
(rg [aM 10 1,
aG 11 10,
aC 12 0] [1, 2, 5, 10, 11, 12])
(.blk 0 (.loop (.trim (sq
(rg [aB 13 .lss 12 11] [1, 2, 5, 10, 11, 12, 13])
(sq
(cn 13
.skip
(.ext 0))
(sq
(.blk 1 (sq
(rg [aM 14 12,
aI 15 3 10 12,
aN 16 3 15,
aO 7 (.zer 54 (.agg [(iP 0), (iP 0), (iP 0)])),
aM 6 14,
aZ (.st 3 (aT 7) (aT 16))] [1, 2, 5, 6, 7, 10, 11, 12])
(sq
(rg [aF 17 0 7,
aL 18 17,
aF 19 1 7,
aL 20 19,
aO 21 (.bld [(iP 0), (iP 0)] [(0, 1, (aT 18)), (1, 1, (aT 20))]),
aO 8 (.zer 133 (.agg [(iP 0), (iP 0)])),
aZ (.st 2 (aT 8) (aT 21))] [1, 2, 5, 6, 7, 8, 10, 11, 12])
(sq
(sq
(rg [aM 22 5,
aN 23 2 8,
aO 24 (.mlk (some 2) (.bool false) false (aT 22) (aT 23)),
aM 25 24,
bM 26 25 false 6,
bO 27 25 false (.bin .gtr (aT 26) (cI 0)),
bM 28 25 false 27,
bN 29 28 true 9 2,
bM 30 28 true 1,
bM 31 28 true 6,
bO 32 28 true (.bin .sub (aT 31) (cI 1)),
bO 33 28 true (.iaS 3 (aT 30) (aT 32)),
bN 34 28 true 3 33,
bN 35 28 true 3 7,
bO 36 28 true (.call 110 .pure [(aT 29), (aT 34), (aT 35)]),
bO 37 28 true (.un .not (aT 36)),
bO 38 25 false (.pick (aT 28) (aT 37) (.val (.bool false))),
aO 39 (.pick (aT 25) (.val (.bool true)) (aT 38))] [1, 2, 5, 8, 10, 11, 12, 39])
(cn 39
(sq
(rg [aU 4 false] [4])
.ret)
.skip))
(rg [aM 40 5,
aN 41 2 8,
aZ (.mup (some 2) (aT 40) (aT 41) (.val (.bool true)))] [1, 2, 5, 10, 11, 12])))))
(rg [aK 42 .add 12 1,
aM 12 42] [1, 2, 5, 10, 11, 12]))))))))
(sq
(rg [aU 4 true] [4])
.ret)))⟩
def pf69 : PFn := ⟨41, 2, [.tmp 4], sq
(rg [aO 2 (.boxp 90 (aT 0)),
aO 4 (.mv (.val .nilmap))] [1, 2])
(sq
(rg [aO 10 (.mkm none),
aM 5 10] [1, 2, 5])
(sq
(sq
(rg [aF 11 0 2,
aF 12 6 11,
aL 13 12,
aG 14 13,
aC 15 0] [1, 5, 13, 14, 15])
(.blk 0 (.loop (.trim (sq
(rg [aB 16 .lss 15 14] [1, 5, 13, 14, 15, 16])
(sq
(cn 16
.skip
(.ext 0))
(sq
(.blk 1 (sq
(rg [aM 17 15,
aI 18 5 13 15,
aN 19 5 18,
aO 7 (.zer 68 (.agg [(iP 0), (iP 0), (iP 0), (.list .nil 3 []), (.list .nil 3 [])])),
aM 6 17,
aZ (.st 5 (aT 7) (aT 19))] [1, 5, 6, 7, 13, 14, 15])
(sq
(sq
(rg [aM 20 6,
aM 21 1,
aB 22 .eql 20 21] [1, 5, 7, 13, 14, 15, 22])
(cn 22
(.ext 1)
.skip))
(sq
(rg [aN 23 5 7,
aP 24 59 [aT 23],
aG 25 24,
aC 26 0] [1, 5, 13, 14, 15, 24, 25, 26])
(.blk 2 (.loop (.trim (sq
(rg [aB 27 .lss 26 25] [1, 5, 13, 14, 15, 24, 25, 26, 27])
(sq
(cn 27
.skip
(.ext 2))
(sq
(.blk 3 (sq
(rg [aI 28 3 24 26,
aN 29 3 28,
aO 9 (.zer 54 (.agg [(iP 0), (iP 0), (iP 0)])),
aZ (.st 3 (aT 9) (aT 29))] [1, 5, 9, 13, 14, 15, 24, 25, 26])
(rg [aM 30 5,
aF 31 0 9,
aL 32 31,
aO 33 (.mlk none (iP 0) false (aT 30) (aT 32)),
aF 34 1 9,
aL 35 34,
aO 36 (.bin .shl (cI 1) (aT 35)),
aB 37 .or 33 36,
aZ (.mup none (aT 30) (aT 32) (aT 37))] [1, 5, 13, 14, 15, 24, 25, 26])))
(rg [aK 38 .add 26 1,
aM 26 38] [1, 5, 13, 14, 15, 24, 25, 26])))))))))))
(rg [aK 39 .add 15 1,
aM 15 39] [1, 5, 13, 14, 15]))))))))
(sq
(rg [aM 40 5,
aM 4 40] [4])
.ret)))⟩
def pf70 : PFn := ⟨9, 2, [.tmp 4], sq
(rg [aU 4 false] [0, 1])
(sq
(rg [aM 5 0,
aM 6 1,
aP 7 116 [aT 5, aT 6],
aK 8 .geq 7 0,
aM 4 8] [4])
.ret)⟩
def pf71 : PFn := ⟨7, 2, [.tmp 3], sq
(rg [aO 2 (.boxp 54 (aT 0)),
aU 3 false] [1, 2])
(sq
(rg [aL 4 1,
aN 5 3 2,
aP 6 72 [aT 4, aT 5],
aM 3 6] [3])
.ret)⟩
def pf72 : PFn := ⟨24, 2, [.tmp 4], sq
(rg [aO 3 (.boxp 54 (aT 1)),
aU 4 false] [0, 3])
(sq
(sq
(rg [aC 6 0] [0, 3, 6])
(.blk 0 (.loop (sq
(rg [aK 7 .lss 6 6] [0, 3, 6, 7])
(sq
(cn 7
.skip
(.ext 0))
(sq
(.blk 1 (sq
(rg [aM 8 6,
aM 5 8] [0, 3, 5, 6])
(sq
(rg [aM 9 0,
aF 10 0 3,
aL 11 10,
aO 12 (.mlk none (iP 0) false (aT 9) (aT 11)),
aM 13 5,
aB 14 .shr 12 13,
aK 15 .and 14 1,
aK 16 .eql 15 1,
aM 17 16,
bM 18 17 true 5,
bF 19 17 true 1 3,
bL 20 17 true 19,
bO 21 17 true (.call 117 .pure [(aT 18), (aT 20)]),
aO 22 (.pick (aT 17) (aT 21) (.val (.bool false)))] [0, 3, 6, 22])
(cn 22
(sq
(rg [aU 4 true] [4])
.ret)
.skip))))
(rg [aK 23 .add 6 1,
aM 6 23] [0, 3, 6])))))))
(sq
(rg [aU 4 false] [4])
.ret))⟩
def pf75 : PFn := ⟨20, 2, [.tmp 4], sq
(rg [aO 2 (.boxp 30 (aT 0)),
aC 4 0] [1, 2])
(sq
(sq
(rg [aN 6 7 2,
aP 7 21 [aT 6],
aM 5 7] [1, 2, 5])
(sq
(rg [aM 8 5,
aK 9 .neq 8 0] [1, 2, 5, 9])
(cn 9
(sq
(rg [aM 10 5,
aM 4 10] [4])
.ret)
.skip)))
(sq
(sq
(rg [aM 11 1,
aK 12 .lss 11 0,
aM 13 12,
bM 14 13 false 1,
bF 15 13 false 6 2,
bL 16 13 false 15,
bO 17 13 false (.len (aT 16)),
bO 18 13 false (.bin .geq (aT 14) (aT 17)),
aO 19 (.pick (aT 13) (.val (.bool true)) (aT 18))] [19])
(cn 19
(sq
(rg [aC 4 2] [4])
.ret)
.skip))
(sq
(rg [aC 4 0] [4])
.ret)))⟩
def pf76 : PFn := ⟨56, 1, [.cell 2 (some 7)], sq
(rg [aO 1 (.boxm 30 (aT 0)),
aO 2 (.zer 30 (.agg [(iP 0), (iP 0), (.list .nil 1 []), (.list .nil 1 []), (.list .nil 4 []), (.list .nil 6 []), (.list .nil 5 [])]))] [1, 2])
(sq
(rg [aF 6 0 1,
aN 7 4 6,
aO 3 (.zer 25 (.agg [(iP 0), (iP 0), (.list .nil 1 []), (.list .nil 1 [])])),
aZ (.st 4 (aT 3) (aT 7))] [1, 2, 3])
(sq
(rg [aF 8 2 3,
aL 9 8,
aP 10 119 [aT 9],
aF 11 3 3,
aL 12 11,
aP 13 120 [aT 12],
aF 14 0 1,
aF 15 2 14,
aZ (.st 1 (aT 15) (aT 10)),
aF 16 0 1,
aF 17 3 16,
aZ (.st 1 (aT 17) (aT 13))] [1, 2])
(sq
(rg [aF 18 4 1,
aL 19 18,
aP 20 121 [aT 19],
aF 21 5 1,
aL 22 21,
aP 23 122 [aT 22],
aF 24 6 1,
aL 25 24,
aO 26 (.call 123 .opn [(aT 25)]),
aF 27 4 1,
aZ (.st 1 (aT 27) (aT 20)),
aF 28 5 1,
aZ (.st 1 (aT 28) (aT 23)),
aF 29 6 1,
aZ (.st 1 (aT 29) (aT 26))] [1, 2])
(sq
(sq
(rg [aF 30 6 1,
aL 31 30,
aG 32 31,
aC 33 0] [1, 2, 31, 32, 33])
(.blk 0 (.loop (.trim (sq
(rg [aB 34 .lss 33 32] [1, 2, 31, 32, 33, 34])
(sq
(cn 34
.skip
(.ext 0))
(sq
(.blk 1 (sq
(rg [aM 35 33,
aI 36 5 31 33,
aN 37 5 36,
aO 5 (.zer 68 (.agg [(iP 0), (iP 0), (iP 0), (.list .nil 3 []), (.list .nil 3 [])])),
aM 4 35,
aZ (.st 5 (aT 5) (aT 37))] [1, 2, 4, 5, 31, 32, 33])
(.reg [aF 38 6 1,
aL 39 38,
aM 40 4,
aF 41 6 1,
aL 42 41,
aM 43 4,
aF 44 3 5,
aL 45 44,
aP 46 78 [aT 45],
aF 47 4 5,
aL 48 47,
aP 49 78 [aT 48],
aI 50 5 39 40,
aF 51 3 50,
aZ (.st 1 (aT 51) (aT 46)),
aI 52 5 42 43,
aF 53 4 52,
aZ (.st 1 (aT 53) (aT 49))] [(4, 14), (4, 15)] [1, 2, 31, 32, 33])))
(rg [aK 54 .add 33 1,
aM 33 54] [1, 2, 31, 32, 33]))))))))
(sq
(rg [aN 55 7 1,
aZ (.st 7 (aT 2) (aT 55))] [2])
.ret)))))⟩
def pf77 : PFn := ⟨84, 3, [.cell 6 (some 3), .tmp 7, .tmp 8], sq
(rg [aO 3 (.boxp 30 (aT 0)),
aO 6 (.zer 54 (.agg [(iP 0), (iP 0), (iP 0)])),
aO 7 (.mv (.val (.list .nil 3 []))),
aC 8 0] [1, 2, 3, 6])
(sq
(rg [aF 16 6 3,
aL 17 16,
aM 18 1,
aI 19 5 17 18,
aN 20 5 19,
aO 9 (.zer 68 (.agg [(iP 0), (iP 0), (iP 0), (.list .nil 3 []), (.list .nil 3 [])])),
aZ (.st 5 (aT 9) (aT 20))] [1, 2, 3, 6, 9])
(sq
(sq
(rg [aF 21 4 9,
aL 22 21,
aG 23 22,
aK 24 .gtr 23 0] [1, 2, 3, 6, 9, 24])
(cn 24
(sq
(sq
(rg [aF 25 4 9,
aL 26 25,
aO 27 (.iaS 3 (aT 26) (cI 0)),
aN 28 3 27,
aO 10 (.zer 54 (.agg [(iP 0), (iP 0), (iP 0)])),
aZ (.st 3 (aT 10) (aT 28))] [6, 9, 10])
(sq
(rg [aN 29 5 9,
aN 30 3 10,
aF 31 4 9,
aL 32 31,
aO 33 (.slc 3 (aT 32) (some (cI 1)) none none),
aP 34 124 [aT 29, aT 30, aT 33],
aO 35 (.un .not (aT 34))] [6, 9, 10, 35])
(cn 35
(sq
(.reg [aN 36 3 10,
aF 37 4 9,
aL 38 37,
aO 39 (.slc 3 (aT 38) (some (cI 1)) none none),
aZ (.st 3 (aT 6) (aT 36)),
aM 7 39,
aC 8 0] [(2, 4), (2, 5)] [6, 7, 8])
.ret)
.skip)))
(sq
(rg [aO 40 (.bld [(iP 0), (iP 0), (iP 0)] []),
aZ (.st 3 (aT 6) (aT 40)),
aO 7 (.mv (.val (.list .nil 3 []))),
aC 8 1] [6, 7, 8])
.ret))
.skip))
(sq
(.reg [aN 41 7 3,
aP 42 60 [aT 41],
aM 43 1,
aF 44 3 9,
aL 45 44,
aO 46 (.iaS 3 (aT 45) (cI 0)),
aN 47 3 46,
aM 48 2,
aP 49 85 [aT 42, aT 43, aT 47, aT 48],
aO 11 (.zer 117 (.agg [(iP 0), (iP 0), (.list .nil 1 []), (.list .nil 1 []), (.list .nil 4 []), (.list .nil 6 []), (.list .nil 5 []), .nilmap, .nilmap, .nilmap, .nilmap, .nilmap])),
aZ (.st 12 (aT 11) (aT 49))] [(0, 9), (0, 10), (1, 9), (1, 10), (4, 9), (4, 10), (6, 9), (6, 10), (8, 9), (8, 10)] [1, 6, 9, 11])
(sq
(.reg [aN 51 12 11,
aF 52 3 9,
aL 53 52,
aO 54 (.iaS 3 (aT 53) (cI 0)),
aN 55 3 54,
aP 56 86 [aT 51, aT 55],
aM 50 56,
aE 57 0 50,
aE 58 1 50,
aO 12 (.zer 54 (.agg [(iP 0), (iP 0), (iP 0)])),
aZ (.st 3 (aT 12) (aT 57)),
aM 13 58] [(0, 9), (0, 10), (2, 9), (2, 10), (4, 9), (4, 10), (5, 9), (5, 10)] [1, 6, 9, 11, 12, 13])
(sq
(sq
(rg [aM 59 13,
aO 60 (.un .not (aT 59))] [1, 6, 9, 11, 12, 60])
(cn 60
(sq
(rg [aO 61 (.bld [(iP 0), (iP 0), (iP 0)] []),
aZ (.st 3 (aT 6) (aT 61)),
aO 7 (.mv (.val (.list .nil 3 []))),
aC 8 2] [6, 7, 8])
.ret)
.skip))
(sq
(rg [aN 63 12 11,
aM 64 1,
aN 65 3 12,
aP 66 125 [aT 63, aT 64, aT 65],
aM 62 66,
aE 67 0 62,
aE 68 1 62,
aM 14 67,
aM 15 68] [6, 9, 12, 14, 15])
(sq
(sq
(rg [aM 69 15,
aO 70 (.un .not (aT 69)),
aM 71 70,
bN 72 71 false 5 9,
bN 73 71 false 3 12,
bO 74 71 false (.call 124 .pure [(aT 72), (aT 73), (.val (.list .nil 3 []))]),
aO 75 (.pick (aT 71) (.val (.bool true)) (aT 74))] [6, 12, 14, 75])
(cn 75
(sq
(rg [aO 76 (.bld [(iP 0), (iP 0), (iP 0)] []),
aZ (.st 3 (aT 6) (aT 76)),
aO 7 (.mv (.val (.list .nil 3 []))),
aC 8 1] [6, 7, 8])
.ret)
.skip))
(sq
(sq
(rg [aM 77 14,
aG 78 77,
aK 79 .gtr 78 0] [6, 12, 14, 79])
(cn 79
(rg [aM 80 14,
aO 81 (.slc 3 (aT 80) (some (cI 1)) none none),
aM 14 81] [6, 12, 14])
.skip))
(sq
(rg [aN 82 3 12,
aM 83 14,
aZ (.st 3 (aT 6) (aT 82)),
aM 7 83,
aC 8 0] [6, 7, 8])
.ret)))))))))⟩
def pf78 : PFn := ⟨8, 1, [.tmp 2], sq
(rg [aO 2 (.mv (.val (.list .nil 3 [])))] [0])
(sq
(sq
(rg [aM 3 0,
aO 4 (.eqn false (aT 3) (.val (.list .nil 1 [])))] [0, 4])
(cn 4
(sq
(rg [aO 2 (.mv (.val (.list .nil 3 [])))] [2])
.ret)
.skip))
(sq
(rg [aO 5 (.bsl 0 3 [(iP 0), (iP 0), (iP 0)] []),
aM 6 0,
aO 7 (.app 54 3 24 (aT 5) (aT 6)),
aM 2 7] [2])
.ret))⟩
def pf79 : PFn := ⟨9, 2, [.tmp 4], sq
(rg [aU 4 false] [0, 1])
(sq
(rg [aM 5 0,
aM 6 1,
aP 7 126 [aT 5, aT 6],
aK 8 .geq 7 0,
aM 4 8] [4])
.ret)⟩
def pf84 : PFn := ⟨19, 1, [.cell 2 (some 3)], sq
(rg [aO 1 (.boxp 68 (aT 0)),
aO 2 (.zer 54 (.agg [(iP 0), (iP 0), (iP 0)]))] [1, 2])
(sq
(sq
(rg [aF 4 4 1,
aL 5 4,
aG 6 5,
aM 3 6] [1, 2, 3])
(sq
(rg [aM 7 3,
aK 8 .gtr 7 0] [1, 2, 3, 8])
(cn 8
(sq
(rg [aF 9 4 1,
aL 10 9,
aM 11 3,
aK 12 .sub 11 1,
aI 13 3 10 12,
aN 14 3 13,
aZ (.st 3 (aT 2) (aT 14))] [2])
.ret)
.skip)))
(sq
(rg [aF 15 3 1,
aL 16 15,
aO 17 (.iaS 3 (aT 16) (cI 0)),
aN 18 3 17,
aZ (.st 3 (aT 2) (aT 18))] [2])
.ret))⟩
def pf85 : PFn := ⟨102, 4, [.cell 8 (some 12)], sq
(rg [aO 4 (.boxp 90 (aT 0)),
aO 6 (.boxp 54 (aT 2)),
aO 8 (.zer 117 (.agg [(iP 0), (iP 0), (.list .nil 1 []), (.list .nil 1 []), (.list .nil 4 []), (.list .nil 6 []), (.list .nil 5 []), .nilmap, .nilmap, .nilmap, .nilmap, .nilmap]))] [1, 3, 4, 6, 8])
(sq
(.reg [aN 19 9 4,
aN 20 9 4,
aM 21 1,
aP 22 69 [aT 20, aT 21],
aO 23 (.mkm none),
aO 24 (.mkm (some 3)),
aO 25 (.bld [(iP 0), (iP 0), (.list .nil 1 []), (.list .nil 1 []), (.list .nil 4 []), (.list .nil 6 []), (.list .nil 5 []), .nilmap, .nilmap, .nilmap, .nilmap, .nilmap] [(0, 9, (aT 19)), (9, 1, (aT 22)), (10, 1, (aT 23)), (11, 1, (aT 24))]),
aO 9 (.zer 117 (.agg [(iP 0), (iP 0), (.list .nil 1 []), (.list .nil 1 []), (.list .nil 4 []), (.list .nil 6 []), (.list .nil 5 []), .nilmap, .nilmap, .nilmap, .nilmap, .nilmap])),
aZ (.st 12 (aT 9) (aT 25))] [(0, 0), (1, 0), (3, 0)] [3, 4, 6, 8, 9])
(sq
(sq
(rg [aM 26 3,
aG 27 26,
aC 28 0] [4, 6, 8, 9, 26, 27, 28])
(.blk 0 (.loop (sq
(rg [aB 29 .lss 28 27] [4, 6, 8, 9, 26, 27, 28, 29])
(sq
(cn 29
.skip
(.ext 0))
(sq
(.blk 1 (sq
(rg [aI 30 1 26 28,
aL 31 30,
aM 11 31] [4, 6, 8, 9, 11, 26, 27, 28])
(rg [aF 32 10 9,
aL 33 32,
aM 34 11,
aZ (.mup none (aT 33) (aT 34) (.val (.bool true)))] [4, 6, 8, 9, 26, 27, 28])))
(rg [aK 35 .add 28 1,
aM 28 35] [4, 6, 8, 9, 26, 27, 28])))))))
(sq
(rg [aO 36 (.mkm (some 3)),
aM 12 36] [4, 6, 8, 9, 12])
(sq
(rg [aO 37 (.mkm (some 3)),
aN 38 3 6,
aZ (.mup (some 3) (aT 37) (aT 38) (.val (.bool true))),
aM 39 37,
aM 13 39] [4, 6, 8, 9, 12, 13])
(sq
(rg [aO 14 (.mv (.val (.list .nil 3 [])))] [4, 6, 8, 9, 12, 13, 14])
(sq
(sq
(rg [aN 40 3 6,
aO 41 (.bsl 1 3 [(iP 0), (iP 0), (iP 0)] [(0, 3, (aT 40))]),
aM 15 41] [4, 8, 9, 12, 13, 14, 15])
(.blk 2 (.loop (sq
(sq
(rg [aM 42 15,
aG 43 42,
aK 44 .gtr 43 0] [4, 8, 9, 12, 13, 14, 15, 44])
(cn 44
.skip
(.ext 2)))
(sq
(.blk 3 (sq
(rg [aN 47 9 4,
aM 48 15,
aO 49 (.iaS 3 (aT 48) (cI 0)),
aN 50 3 49,
aP 51 91 [aT 47, aT 50],
aG 52 51,
aC 53 0] [4, 8, 9, 12, 13, 14, 15, 51, 52, 53])
(.blk 4 (.loop (sq
(rg [aB 54 .lss 53 52] [4, 8, 9, 12, 13, 14, 15, 51, 52, 53, 54])
(sq
(cn 54
.skip
(.ext 4))
(sq
(.blk 5 (sq
(rg [aI 55 3 51 53,
aN 56 3 55,
aO 17 (.zer 54 (.agg [(iP 0), (iP 0), (iP 0)])),
aZ (.st 3 (aT 17) (aT 56))] [4, 8, 9, 12, 13, 14, 15, 17, 51, 52, 53])
(sq
(rg [aM 57 12,
aN 58 3 17,
aM 60 15,
aO 61 (.iaS 3 (aT 60) (cI 0)),
aN 62 3 61,
aO 63 (.bsl 1 3 [(iP 0), (iP 0), (iP 0)] [(0, 3, (aT 62))]),
aO 64 (.mpe (some 3) (.list .nil 3 []) (aT 57) (aT 58)),
aE 59 0 64,
aO 65 (.app 54 3 24 (aT 59) (aT 63)),
aE 66 1 64,
aZ (.est (some 3) (aT 57) (aT 66) (aT 65))] [4, 8, 9, 12, 13, 14, 15, 17, 51, 52, 53])
(sq
(rg [aM 67 13,
aN 68 3 17,
aO 69 (.mlk (some 3) (.bool false) false (aT 67) (aT 68)),
aO 70 (.un .not (aT 69))] [4, 8, 9, 12, 13, 14, 15, 17, 51, 52, 53, 70])
(cn 70
(sq
(rg [aM 71 13,
aN 72 3 17,
aZ (.mup (some 3) (aT 71) (aT 72) (.val (.bool true)))] [4, 8, 9, 12, 13, 14, 15, 17, 51, 52, 53])
(rg [aM 73 15,
aN 74 3 17,
aO 75 (.bsl 1 3 [(iP 0), (iP 0), (iP 0)] [(0, 3, (aT 74))]),
aO 76 (.app 54 3 24 (aT 73) (aT 75)),
aM 15 76] [4, 8, 9, 12, 13, 14, 15, 51, 52, 53]))
.skip)))))
(rg [aK 77 .add 53 1,
aM 53 77] [4, 8, 9, 12, 13, 14, 15, 51, 52, 53]))))))))
(rg [aM 45 15,
aO 46 (.slc 3 (aT 45) (some (cI 1)) none none),
aM 15 46] [4, 8, 9, 12, 13, 14, 15]))))))
(.mrng ⟨[aM 78 13], (aT 78), 79, 80, 81, 82, [aE 83 0 82,
aO 18 (.zer 54 (.agg [(iP 0), (iP 0), (iP 0)])),
aZ (.st 3 (aT 18) (aT 83))], [8, 9, 12, 14, 18, 79], 6, 7, [8]⟩
(sq
(rg [aF 84 10 9,
aL 85 84,
aF 86 0 18,
aL 87 86,
aO 88 (.mlk none (.bool false) false (aT 85) (aT 87))] [8, 9, 12, 14, 18, 79, 88])
(cn 88
(sq
(rg [aF 89 11 9,
aL 90 89,
aN 91 3 18,
aO 92 (.bld [(iP 0), (iP 0)] []),
aZ (.mup (some 3) (aT 90) (aT 91) (aT 92))] [8, 9, 12, 14, 18, 79])
(rg [aM 93 14,
aN 94 3 18,
aO 95 (.bsl 1 3 [(iP 0), (iP 0), (iP 0)] [(0, 3, (aT 94))]),
aO 96 (.app 54 3 24 (aT 93) (aT 95)),
aM 14 96] [8, 9, 12, 14, 79]))
.skip))
(sq
(rg [aN 97 12 9,
aM 98 12,
aM 99 14,
aO 100 (.call 129 .opn [(aT 97), (aT 98), (aT 99)])] [8, 9])
(sq
(rg [aN 101 12 9,
aZ (.st 12 (aT 8) (aT 101))] [8])
.ret)))))))))⟩
theorem pf85_ok : fnOk Tryz.prog 85 pf85 = true := by kernel_rfl
def pf86 : PFn := ⟨63, 2, [.cell 4 (some 3), .tmp 5], sq
(rg [aO 2 (.boxp 117 (aT 0)),
aO 3 (.boxp 54 (aT 1)),
aO 4 (.zer 54 (.agg [(iP 0), (iP 0), (iP 0)])),
aU 5 false] [2, 3, 4])
(sq
(rg [aF 15 0 2,
aN 16 9 15,
aN 17 3 3,
aP 18 91 [aT 16, aT 17],
aM 6 18] [2, 4, 6])
(sq
(sq
(rg [aM 19 6,
aG 20 19,
aK 21 .eql 20 0] [2, 4, 6, 21])
(cn 21
(sq
(rg [aO 22 (.bld [(iP 0), (iP 0), (iP 0)] []),
aZ (.st 3 (aT 4) (aT 22)),
aU 5 false] [4, 5])
.ret)
.skip))
(sq
(rg [aM 23 6,
aO 24 (.iaS 3 (aT 23) (cI 0)),
aN 25 3 24,
aO 26 (.bld [(iP 0), (iP 0)] []),
aO 7 (.zer 54 (.agg [(iP 0), (iP 0), (iP 0)])),
aO 8 (.zer 162 (.agg [(iP 0), (iP 0)])),
aZ (.st 3 (aT 7) (aT 25)),
aZ (.st 2 (aT 8) (aT 26)),
aU 9 false] [2, 4, 6, 7, 8, 9])
(sq
(sq
(rg [aM 27 6,
aG 28 27,
aC 29 0] [2, 4, 7, 8, 9, 27, 28, 29])
(.blk 0 (.loop (.trim (sq
(rg [aB 30 .lss 29 28] [2, 4, 7, 8, 9, 27, 28, 29, 30])
(sq
(cn 30
.skip
(.ext 0))
(sq
(.blk 1 (sq
(rg [aI 31 3 27 29,
aN 32 3 31,
aO 11 (.zer 54 (.agg [(iP 0), (iP 0), (iP 0)])),
aZ (.st 3 (aT 11) (aT 32))] [2, 4, 7, 8, 9, 11, 27, 28, 29])
(sq
(rg [aF 34 11 2,
aL 35 34,
aN 36 3 11,
aO 37 (.mlk (some 3) (.agg [(iP 0), (iP 0)]) true (aT 35) (aT 36)),
aM 33 37,
aE 38 0 33,
aE 39 1 33,
aO 12 (.zer 162 (.agg [(iP 0), (iP 0)])),
aZ (.st 2 (aT 12) (aT 38)),
aM 13 39] [2, 4, 7, 8, 9, 11, 12, 13, 27, 28, 29])
(sq
(sq
(rg [aM 40 13,
aO 41 (.un .not (aT 40))] [2, 4, 7, 8, 9, 11, 12, 27, 28, 29, 41])
(cn 41
(.ext 1)
.skip))
(sq
(.reg [aF 42 0 12,
aL 43 42,
aN 44 12 2,
aN 45 3 11,
aP 46 130 [aT 44, aT 45],
aB 47 .add 43 46,
aF 48 1 12,
aL 49 48,
aK 50 .add 49 1,
aO 51 (.bld [(iP 0), (iP 0)] [(0, 1, (aT 47)), (1, 1, (aT 50))]),
aO 14 (.zer 162 (.agg [(iP 0), (iP 0)])),
aZ (.st 2 (aT 14) (aT 51))] [(1, 10), (1, 11), (2, 10), (2, 11), (3, 10), (3, 11), (4, 10), (4, 11), (7, 10), (7, 11)] [2, 4, 7, 8, 9, 11, 14, 27, 28, 29])
(sq
(rg [aM 52 9,
aO 53 (.un .not (aT 52)),
aM 54 53,
bN 55 54 false 2 14,
bN 56 54 false 2 8,
bO 57 54 false (.call 131 .pure [(aT 55), (aT 56)]),
aO 58 (.pick (aT 54) (.val (.bool true)) (aT 57))] [2, 4, 7, 8, 9, 11, 14, 27, 28, 29, 58])
(cn 58
(.reg [aN 59 3 11,
aN 60 2 14,
aZ (.st 3 (aT 7) (aT 59)),
aZ (.st 2 (aT 8) (aT 60)),
aU 9 true] [(1, 2), (1, 3)] [2, 4, 7, 8, 9, 27, 28, 29])
.skip)))))))
(rg [aK 61 .add 29 1,
aM 29 61] [2, 4, 7, 8, 9, 27, 28, 29]))))))))
(sq
(rg [aN 62 3 7,
aZ (.st 3 (aT 4) (aT 62)),
aU 5 true] [4, 5])
.ret)))))⟩
def pf87 : PFn := ⟨29, 3, [.tmp 6], sq
(rg [aO 3 (.boxp 90 (aT 0)),
aO 5 (.boxp 54 (aT 2)),
aC 6 0] [1, 3, 5])
(sq
(sq
(rg [aF 9 0 3,
aF 10 6 9,
aL 11 10,
aG 12 11,
aC 13 0] [1, 5, 11, 12, 13])
(.blk 0 (.loop (.trim (sq
(rg [aB 14 .lss 13 12] [1, 5, 11, 12, 13, 14])
(sq
(cn 14
.skip
(.ext 0))
(sq
(.blk 1 (sq
(rg [aM 15 13,
aI 16 5 11 13,
aN 17 5 16,
aO 8 (.zer 68 (.agg [(iP 0), (iP 0), (iP 0), (.list .nil 3 []), (.list .nil 3 [])])),
aM 7 15,
aZ (.st 5 (aT 8) (aT 17))] [1, 5, 7, 8, 11, 12, 13])
(sq
(rg [aM 18 7,
aM 19 1,
aB 20 .neq 18 19,
aM 21 20,
bN 22 21 true 5 8,
bO 23 21 true (.call 59 .pure [(aT 22)]),
bO 24 21 true (.mkf (.func 132) [] [(aT 5)]),
bO 25 21 true (.call 70 .pure [(aT 23), (aT 24)]),
aO 26 (.pick (aT 21) (aT 25) (.val (.bool false)))] [1, 5, 7, 11, 12, 13, 26])
(cn 26
(sq
(rg [aM 27 7,
aM 6 27] [6])
.ret)
.skip))))
(rg [aK 28 .add 13 1,
aM 13 28] [1, 5, 11, 12, 13]))))))))
(sq
(rg [aC 6 (-1)] [6])
.ret))⟩
def pf90 : PFn := ⟨17, 2, [.tmp 4, .tmp 5], sq
(rg [aO 2 (.boxp 25 (aT 0)),
aO 3 (.boxp 54 (aT 1)),
aO 4 (.mv (.val (.list .nil 3 []))),
aC 5 0] [2, 3])
(sq
(sq
(rg [aN 7 4 2,
aN 8 3 3,
aO 9 (.bsl 1 3 [(iP 0), (iP 0), (iP 0)] [(0, 3, (aT 8))]),
aP 10 134 [aT 7, aT 9],
aM 6 10] [2, 3, 6])
(sq
(rg [aM 11 6,
aK 12 .neq 11 0] [2, 3, 6, 12])
(cn 12
(sq
(rg [aM 13 6,
aO 4 (.mv (.val (.list .nil 3 []))),
aM 5 13] [4, 5])
.ret)
.skip)))
(sq
(rg [aN 14 4 2,
aN 15 3 3,
aP 16 135 [aT 14, aT 15],
aM 4 16,
aC 5 0] [4, 5])
.ret))⟩
def pf91 : PFn := ⟨66, 2, [.tmp 4], sq
(rg [aO 2 (.boxp 90 (aT 0)),
aO 3 (.boxp 54 (aT 1)),
aO 4 (.mv (.val (.list .nil 3 [])))] [2, 3])
(sq
(rg [aO 5 (.nacc 54 3)] [2, 3, 5])
(sq
(rg [aF 13 7 2,
aL 14 13,
aN 15 3 3,
aO 16 (.mlk (some 3) (iP 0) true (aT 14) (aT 15)),
aM 12 16,
aE 17 0 12,
aE 18 1 12,
aM 6 17,
aM 7 18] [2, 3, 5, 7])
(sq
(sq
(rg [aN 19 9 2,
aN 20 3 3,
aP 21 136 [aT 19, aT 20],
aG 22 21,
aC 23 0] [2, 3, 5, 7, 21, 22, 23])
(.blk 0 (.loop (.trim (sq
(rg [aB 24 .lss 23 22] [2, 3, 5, 7, 21, 22, 23, 24])
(sq
(cn 24
.skip
(.ext 0))
(sq
(.blk 1 (sq
(rg [aI 25 3 21 23,
aN 26 3 25,
aO 9 (.zer 54 (.agg [(iP 0), (iP 0), (iP 0)])),
aZ (.st 3 (aT 9) (aT 26))] [2, 3, 5, 7, 9, 21, 22, 23])
(sq
(rg [aF 28 7 2,
aL 29 28,
aF 30 0 9,
aL 31 30,
aF 32 1 9,
aL 33 32,
aF 34 2 3,
aL 35 34,
aK 36 .add 35 2,
aK 37 .rem 36 4,
aO 38 (.bld [(iP 0), (iP 0), (iP 0)] [(0, 1, (aT 31)), (1, 1, (aT 33)), (2, 1, (aT 37))]),
aO 39 (.mlk (some 3) (iP 0) true (aT 29) (aT 38)),
aM 27 39,
aE 40 0 27,
aE 41 1 27,
aM 10 40,
aM 11 41] [2, 3, 5, 7, 9, 10, 11, 21, 22, 23])
(sq
(rg [aM 42 7,
aM 43 42,
bM 44 43 false 11,
bO 45 43 false (.un .not (aT 44)),
aO 46 (.pick (aT 43) (.val (.bool true)) (aT 45)),
aM 47 46,
bM 48 47 false 10,
bO 49 47 false (.bin .eql (aT 48) (cI 4)),
aO 50 (.pick (aT 47) (.val (.bool true)) (aT 49))] [2, 3, 5, 7, 9, 21, 22, 23, 50])
(cn 50
(rg [aM 51 5,
aN 52 3 9,
aO 53 (.bsl 1 3 [(iP 0), (iP 0), (iP 0)] [(0, 3, (aT 52))]),
aO 54 (.app 54 3 24 (aT 51) (aT 53)),
aM 5 54] [2, 3, 5, 7, 21, 22, 23])
.skip)))))
(rg [aK 55 .add 23 1,
aM 23 55] [2, 3, 5, 7, 21, 22, 23]))))))))
(sq
(rg [aM 56 5,
aF 57 8 2,
aL 58 57,
aN 59 3 3,
aO 60 (.mlk (some 3) (.list .nil 3 []) false (aT 58) (aT 59)),
aO 61 (.app 54 3 24 (aT 56) (aT 60)),
aM 5 61] [5])
(sq
(rg [aM 62 5,
aO 63 (.call 137 .opn [(aT 62), (.val (.clo (.func 56) [] []))])] [5])
(sq
(rg [aM 64 5,
aO 65 (.call 138 .opn [(aT 64)]),
aM 4 65] [4])
.ret))))))⟩
def pf94 : PFn := ⟨9, 2, [.tmp 4], sq
(rg [aO 3 (.boxp 54 (aT 1)),
aU 4 false] [0, 3])
(sq
(rg [aM 5 0,
aN 6 3 3,
aP 7 143 [aT 5, aT 6],
aK 8 .geq 7 0,
aM 4 8] [4])
.ret)⟩
def pf95 : PFn := ⟨84, 3, [.tmp 6, .tmp 7], sq
(rg [aO 3 (.boxp 117 (aT 0)),
aO 4 (.boxp 68 (aT 1)),
aO 5 (.boxm 54 (aT 2)),
aO 6 (.mv (.val (.list .nil 3 []))),
aU 7 false] [3, 4, 5])
(sq
(rg [aO 17 (.mkm (some 2)),
aM 8 17] [3, 4, 5, 8])
(sq
(sq
(rg [aN 18 5 4,
aP 19 59 [aT 18],
aG 20 19,
aC 21 0] [3, 5, 8, 19, 20, 21])
(.blk 0 (.loop (.trim (sq
(rg [aB 22 .lss 21 20] [3, 5, 8, 19, 20, 21, 22])
(sq
(cn 22
.skip
(.ext 0))
(sq
(.blk 1 (sq
(rg [aI 23 3 19 21,
aN 24 3 23,
aO 10 (.zer 54 (.agg [(iP 0), (iP 0), (iP 0)])),
aZ (.st 3 (aT 10) (aT 24))] [3, 5, 8, 10, 19, 20, 21])
(rg [aM 25 8,
aF 26 0 10,
aL 27 26,
aF 28 1 10,
aL 29 28,
aO 30 (.bld [(iP 0), (iP 0)] [(0, 1, (aT 27)), (1, 1, (aT 29))]),
aZ (.mup (some 2) (aT 25) (aT 30) (.val (.bool true)))] [3, 5, 8, 19, 20, 21])))
(rg [aK 31 .add 21 1,
aM 21 31] [3, 5, 8, 19, 20, 21]))))))))
(sq
(rg [aO 11 (.nacc 54 3)] [3, 5, 8, 11])
(.blk 2 (.loop (.trim (.blk 3 (sq
(rg [aF 32 0 5,
aL 33 32,
aF 34 1 5,
aL 35 34,
aO 36 (.bld [(iP 0), (iP 0)] [(0, 1, (aT 33)), (1, 1, (aT 35))]),
aO 12 (.zer 133 (.agg [(iP 0), (iP 0)])),
aZ (.st 2 (aT 12) (aT 36))] [3, 5, 8, 11, 12])
(sq
(sq
(rg [aM 37 8,
aN 38 2 12,
aO 39 (.mlk (some 2) (.bool false) false (aT 37) (aT 38)),
aM 40 39,
bF 41 40 false 9 3,
bL 42 40 false 41,
bN 43 40 false 3 5,
bO 44 40 false (.call 72 .pure [(aT 42), (aT 43)]),
aO 45 (.pick (aT 40) (.val (.bool true)) (aT 44)),
aM 46 45,
bM 47 46 false 11,
bO 48 46 false (.len (aT 47)),
bO 49 46 false (.bin .geq (aT 48) (cI 60)),
aO 50 (.pick (aT 46) (.val (.bool true)) (aT 49))] [3, 5, 8, 11, 12, 50])
(cn 50
(sq
(rg [aO 6 (.mv (.val (.list .nil 3 []))),
aU 7 false] [6, 7])
.ret)
.skip))
(sq
(rg [aM 51 8,
aN 52 2 12,
aZ (.mup (some 2) (aT 51) (aT 52) (.val (.bool true)))] [3, 5, 8, 11])
(sq
(rg [aM 53 11,
aN 54 3 5,
aO 55 (.bsl 1 3 [(iP 0), (iP 0), (iP 0)] [(0, 3, (aT 54))]),
aO 56 (.app 54 3 24 (aT 53) (aT 55)),
aM 11 56] [3, 5, 8, 11])
(sq
(sq
(rg [aF 58 0 3,
aF 59 7 58,
aL 60 59,
aN 61 3 5,
aO 62 (.mlk (some 3) (iP 0) true (aT 60) (aT 61)),
aM 57 62,
aE 63 0 57,
aE 64 1 57,
aM 13 63,
aM 14 64] [3, 5, 8, 11, 14])
(sq
(rg [aM 65 14,
aM 66 65,
bF 67 66 false 10 3,
bL 68 66 false 67,
bF 69 66 false 0 5,
bL 70 66 false 69,
bO 71 66 false (.mlk none (.bool false) false (aT 68) (aT 70)),
aO 72 (.pick (aT 66) (.val (.bool true)) (aT 71))] [3, 5, 8, 11, 72])
(cn 72
(sq
(rg [aM 73 11,
aM 6 73,
aU 7 true] [6, 7])
.ret)
.skip)))
(sq
(rg [aN 75 12 3,
aN 76 3 5,
aP 77 86 [aT 75, aT 76],
aM 74 77,
aE 78 0 74,
aE 79 1 74,
aO 15 (.zer 54 (.agg [(iP 0), (iP 0), (iP 0)])),
aZ (.st 3 (aT 15) (aT 78)),
aM 16 79] [3, 5, 8, 11, 15, 16])
(sq
(sq
(rg [aM 80 16,
aO 81 (.un .not (aT 80))] [3, 5, 8, 11, 15, 81])
(cn 81
(sq
(rg [aM 82 11,
aM 6 82,
aU 7 true] [6, 7])
.ret)
.skip))
(rg [aN 83 3 15,
aZ (.st 3 (aT 5) (aT 83))] [3, 5, 8, 11])))))))))))))))⟩
def pf97 : PFn := ⟨43, 1, [.tmp 2], sq
(rg [aO 1 (.boxp 30 (aT 0)),
aO 2 (.mv (.val .nilmap))] [1])
(sq
(rg [aO 10 (.mkm (some 2)),
aM 3 10] [1, 3])
(sq
(rg [aF 12 0 1,
aN 13 4 12,
aF 14 4 1,
aL 15 14,
aP 16 145 [aT 13, aT 15],
aM 11 16,
aE 17 0 11,
aE 18 1 11,
aM 4 17,
aM 5 18] [3, 4])
(sq
(sq
(rg [aM 19 4,
aG 20 19,
aC 21 0] [3, 19, 20, 21])
(.blk 0 (.loop (.trim (sq
(rg [aB 22 .lss 21 20] [3, 19, 20, 21, 22])
(sq
(cn 22
.skip
(.ext 0))
(sq
(.blk 1 (sq
(rg [aI 23 2 19 21,
aN 24 2 23,
aO 7 (.zer 179 (.agg [(iP 0), (.list .nil 1 [])])),
aZ (.st 2 (aT 7) (aT 24))] [3, 7, 19, 20, 21])
(sq
(rg [aF 25 1 7,
aL 26 25,
aG 27 26,
aC 28 0] [3, 7, 19, 20, 21, 26, 27, 28])
(.blk 2 (.loop (sq
(rg [aB 29 .lss 28 27] [3, 7, 19, 20, 21, 26, 27, 28, 29])
(sq
(cn 29
.skip
(.ext 2))
(sq
(.blk 3 (sq
(rg [aI 30 1 26 28,
aL 31 30,
aM 9 31] [3, 7, 9, 19, 20, 21, 26, 27, 28])
(rg [aM 32 3,
aM 33 9,
aK 34 .quo 33 8,
aM 35 9,
aK 36 .rem 35 8,
aO 37 (.bld [(iP 0), (iP 0)] [(0, 1, (aT 34)), (1, 1, (aT 36))]),
aF 38 0 7,
aL 39 38,
aZ (.mup (some 2) (aT 32) (aT 37) (aT 39))] [3, 7, 19, 20, 21, 26, 27, 28])))
(rg [aK 40 .add 28 1,
aM 28 40] [3, 7, 19, 20, 21, 26, 27, 28])))))))))
(rg [aK 41 .add 21 1,
aM 21 41] [3, 19, 20, 21]))))))))
(sq
(rg [aM 42 3,
aM 2 42] [2])
.ret))))⟩
def pf98 : PFn := ⟨41, 3, [.tmp 6], sq
(rg [aO 3 (.boxp 90 (aT 0)),
aO 6 (.mv (.val (.list .nil 1 [])))] [1, 2, 3])
(sq
(rg [aO 7 (.nacc 3 1)] [1, 2, 3, 7])
(.mrng ⟨[aN 11 9 3,
aM 12 1,
aP 13 69 [aT 11, aT 12]], (aT 13), 14, 15, 16, 17, [aE 18 0 17,
aE 19 1 17,
aM 8 18,
aM 9 19], [2, 7, 8, 9, 14], 0, 1, [6]⟩
(sq
(rg [aC 20 0] [2, 7, 8, 9, 14, 20])
(.blk 2 (.loop (sq
(rg [aK 21 .lss 20 6] [2, 7, 8, 9, 14, 20, 21])
(sq
(cn 21
.skip
(.ext 2))
(sq
(.blk 3 (sq
(rg [aM 22 20,
aM 10 22] [2, 7, 8, 9, 10, 14, 20])
(sq
(rg [aM 23 9,
aM 24 10,
aB 25 .shr 23 24,
aK 26 .and 25 1,
aK 27 .eql 26 1] [2, 7, 8, 9, 10, 14, 20, 27])
(cn 27
(rg [aM 28 7,
aM 29 2,
aM 30 8,
aM 31 10,
aO 32 (.bld [(iP 0), (iP 0)] [(0, 1, (aT 30)), (1, 1, (aT 31))]),
aO 33 (.mlk (some 2) (iP 0) false (aT 29) (aT 32)),
aO 34 (.bsl 1 1 [(iP 0)] [(0, 1, (aT 33))]),
aO 35 (.app 3 1 8 (aT 28) (aT 34)),
aM 7 35] [2, 7, 8, 9, 14, 20])
.skip))))
(rg [aK 36 .add 20 1,
aM 20 36] [2, 7, 8, 9, 14, 20])))))))
(sq
(rg [aM 37 7,
aO 38 (.call 146 .opn [(aT 37)])] [7])
(sq
(rg [aM 39 7,
aO 40 (.call 147 .opn [(aT 39)]),
aM 6 40] [6])
.ret))))⟩
def pf102 : PFn := ⟨15, 1, [.tmp 2, .tmp 3], sq
(rg [aC 2 0,
aC 3 0] [0])
(sq
(sq
(rg [aM 4 0] [4])
(.blk 0 (sq
(rg [aK 6 .eql 4 0,
aM 5 6] [4, 5])
(cn 5
(sq
(rg [aC 2 0,
aC 3 2] [2, 3])
.ret)
(sq
(rg [aK 8 .eql 4 1,
aM 7 8] [4, 7])
(cn 7
(sq
(rg [aC 2 1,
aC 3 3] [2, 3])
.ret)
(sq
(rg [aK 10 .eql 4 2,
aM 9 10] [4, 9])
(cn 9
(sq
(rg [aC 2 0,
aC 3 1] [2, 3])
.ret)
(sq
(rg [aK 12 .eql 4 3,
aM 11 12] [4, 11])
(cn 11
(sq
(rg [aC 2 1,
aC 3 2] [2, 3])
.ret)
(sq
(rg [aK 14 .eql 4 4,
aM 13 14] [13])
(cn 13
(sq
(rg [aC 2 2,
aC 3 3] [2, 3])
.ret)
.skip))))))))))))
(sq
(rg [aC 2 3,
aC 3 0] [2, 3])
.ret))⟩
def pf104 : PFn := ⟨71, 1, [.tmp 2], sq
(rg [aO 1 (.boxp 25 (aT 0)),
aC 2 0] [1])
(sq
(sq
(rg [aF 5 0 1,
aL 6 5,
aK 7 .lss 6 4,
aM 8 7,
bF 9 8 false 0 1,
bL 10 8 false 9,
bO 11 8 false (.bin .gtr (aT 10) (cI 32)),
aO 12 (.pick (aT 8) (.val (.bool true)) (aT 11)),
aM 13 12,
bF 14 13 false 1 1,
bL 15 13 false 14,
bO 16 13 false (.bin .lss (aT 15) (cI 4)),
aO 17 (.pick (aT 13) (.val (.bool true)) (aT 16)),
aM 18 17,
bF 19 18 false 1 1,
bL 20 18 false 19,
bO 21 18 false (.bin .gtr (aT 20) (cI 32)),
aO 22 (.pick (aT 18) (.val (.bool true)) (aT 21)),
aM 23 22,
bF 24 23 false 2 1,
bL 25 23 false 24,
bO 26 23 false (.len (aT 25)),
bF 27 23 false 0 1,
bL 28 23 false 27,
bF 29 23 false 1 1,
bL 30 23 false 29,
bO 31 23 false (.bin .mul (aT 28) (aT 30)),
bO 32 23 false (.bin .neq (aT 26) (aT 31)),
aO 33 (.pick (aT 23) (.val (.bool true)) (aT 32)),
aM 34 33,
bF 35 34 false 3 1,
bL 36 34 false 35,
bO 37 34 false (.len (aT 36)),
bF 38 34 false 0 1,
bL 39 34 false 38,
bF 40 34 false 1 1,
bL 41 34 false 40,
bO 42 34 false (.bin .mul (aT 39) (aT 41)),
bO 43 34 false (.bin .neq (aT 37) (aT 42)),
aO 44 (.pick (aT 34) (.val (.bool true)) (aT 43))] [1, 44])
(cn 44
(sq
(rg [aC 2 1] [2])
.ret)
.skip))
(sq
(sq
(rg [aF 45 2 1,
aL 46 45,
aG 47 46,
aC 48 0] [1, 46, 47, 48])
(.blk 0 (.loop (sq
(rg [aB 49 .lss 48 47] [1, 46, 47, 48, 49])
(sq
(cn 49
.skip
(.ext 0))
(sq
(.blk 1 (sq
(rg [aM 50 48,
aI 51 1 46 48,
aL 52 51,
aM 3 50,
aM 4 52] [1, 3, 4, 46, 47, 48])
(sq
(rg [aM 53 4,
aK 54 .lss 53 0,
aM 55 54,
bM 56 55 false 4,
bO 57 55 false (.bin .geq (aT 56) (cI 64)),
aO 58 (.pick (aT 55) (.val (.bool true)) (aT 57)),
aM 59 58,
bM 60 59 false 4,
bO 61 59 false (.bin .eql (aT 60) (cI 0)),
bM 62 59 false 61,
bF 63 62 true 3 1,
bL 64 62 true 63,
bM 65 62 true 3,
bO 66 62 true (.iaS 1 (aT 64) (aT 65)),
bL 67 62 true 66,
bO 68 59 false (.pick (aT 62) (aT 67) (.val (.bool false))),
aO 69 (.pick (aT 59) (.val (.bool true)) (aT 68))] [1, 46, 47, 48, 69])
(cn 69
(sq
(rg [aC 2 1] [2])
.ret)
.skip))))
(rg [aK 70 .add 48 1,
aM 48 70] [1, 46, 47, 48])))))))
(sq
(rg [aC 2 0] [2])
.ret)))⟩
def pf105 : PFn := ⟨22, 2, [.tmp 4], sq
(rg [aO 2 (.boxp 75 (aT 0)),
aO 3 (.boxp 75 (aT 1)),
aC 4 0] [2, 3])
(sq
(rg [aF 5 0 2,
aL 6 5,
aF 7 0 3,
aL 8 7,
aP 9 108 [aT 6, aT 8],
aF 10 1 2,
aL 11 10,
aF 12 1 3,
aL 13 12,
aP 14 108 [aT 11, aT 13],
aF 15 2 2,
aL 16 15,
aF 17 2 3,
aL 18 17,
aP 19 108 [aT 16, aT 18],
aO 20 (.bsl 3 1 [(iP 0)] [(0, 1, (aT 9)), (1, 1, (aT 14)), (2, 1, (aT 19))]),
aP 21 55 [aT 20],
aM 4 21] [4])
.ret)⟩
def pf106 : PFn := ⟨37, 3, [.tmp 6], sq
(rg [aO 3 (.boxp 25 (aT 0)),
aU 6 false] [1, 2, 3])
(sq
(rg [aM 7 1,
aK 8 .geq 7 0,
aM 9 8,
bM 10 9 true 1,
bF 11 9 true 0 3,
bL 12 9 true 11,
bF 13 9 true 1 3,
bL 14 9 true 13,
bO 15 9 true (.bin .mul (aT 12) (aT 14)),
bO 16 9 true (.bin .lss (aT 10) (aT 15)),
aO 17 (.pick (aT 9) (aT 16) (.val (.bool false))),
aM 18 17,
bM 19 18 true 2,
bO 20 18 true (.bin .geq (aT 19) (cI 0)),
aO 21 (.pick (aT 18) (aT 20) (.val (.bool false))),
aM 22 21,
bM 23 22 true 2,
bO 24 22 true (.bin .lss (aT 23) (cI 6)),
aO 25 (.pick (aT 22) (aT 24) (.val (.bool false))),
aM 26 25,
bF 27 26 true 2 3,
bL 28 26 true 27,
bM 29 26 true 1,
bO 30 26 true (.iaS 1 (aT 28) (aT 29)),
bL 31 26 true 30,
bM 32 26 true 2,
bO 33 26 true (.bin .shr (aT 31) (aT 32)),
bO 34 26 true (.bin .and (aT 33) (cI 1)),
bO 35 26 true (.bin .eql (aT 34) (cI 1)),
aO 36 (.pick (aT 26) (aT 35) (.val (.bool false))),
aM 6 36] [6])
.ret)⟩
def pf107 : PFn := ⟨26, 2, [.tmp 4], sq
(rg [aU 4 false] [0, 1])
(sq
(rg [aM 9 0,
aP 10 149 [aT 9],
aM 8 10,
aE 11 0 8,
aE 12 1 8,
aE 13 2 8,
aM 5 11,
aM 6 12,
aM 7 13] [1, 5, 6, 7])
(sq
(rg [aM 14 7,
aK 15 .eql 14 0,
aM 16 15,
bM 17 16 true 1,
bM 18 16 true 5,
bO 19 16 true (.bin .eql (aT 17) (aT 18)),
bM 20 16 true 19,
bM 21 20 false 1,
bM 22 20 false 6,
bO 23 20 false (.bin .eql (aT 21) (aT 22)),
bO 24 16 true (.pick (aT 20) (.val (.bool true)) (aT 23)),
aO 25 (.pick (aT 16) (aT 24) (.val (.bool false))),
aM 4 25] [4])
.ret))⟩
def pf108 : PFn := ⟨20, 2, [.tmp 4], sq
(rg [aC 4 0] [0, 1])
(sq
(rg [aM 7 0,
aP 8 150 [aT 7],
aM 5 8] [0, 1, 5])
(sq
(rg [aM 9 1,
aP 10 150 [aT 9],
aM 6 10] [0, 1, 5, 6])
(sq
(sq
(rg [aM 11 5] [0, 1, 6, 11])
(cn 11
(sq
(sq
(rg [aM 12 6] [12])
(cn 12
(sq
(rg [aC 4 0] [4])
.ret)
.skip))
(sq
(rg [aC 4 (-1)] [4])
.ret))
.skip))
(sq
(sq
(rg [aM 13 6] [0, 1, 13])
(cn 13
(sq
(rg [aC 4 1] [4])
.ret)
.skip))
(sq
(sq
(rg [aM 14 0,
aM 15 1,
aB 16 .lss 14 15] [0, 1, 16])
(cn 16
(sq
(rg [aC 4 (-1)] [4])
.ret)
.skip))
(sq
(sq
(rg [aM 17 0,
aM 18 1,
aB 19 .gtr 17 18] [19])
(cn 19
(sq
(rg [aC 4 1] [4])
.ret)
.skip))
(sq
(rg [aC 4 0] [4])
.ret)))))))⟩
def pf109 : PFn := ⟨28, 1, [], sq
(rg [aM 4 0,
aG 5 4,
aK 6 .sub 5 1,
aC 2 0,
aM 3 6] [0, 2, 3])
(.blk 0 (.loop (sq
(sq
(rg [aM 7 2,
aM 8 3,
aB 9 .lss 7 8] [0, 2, 3, 9])
(cn 9
.skip
(.ext 0)))
(sq
(.blk 1 (rg [aM 14 0,
aM 15 2,
aM 16 0,
aM 17 3,
aM 18 0,
aM 19 3,
aI 20 3 18 19,
aN 21 3 20,
aM 22 0,
aM 23 2,
aI 24 3 22 23,
aN 25 3 24,
aI 26 3 14 15,
aZ (.st 3 (aT 26) (aT 21)),
aI 27 3 16 17,
aZ (.st 3 (aT 27) (aT 25))] [0, 2, 3]))
(rg [aM 10 2,
aK 11 .add 10 1,
aM 12 3,
aK 13 .sub 12 1,
aM 2 11,
aM 3 13] [0, 2, 3])))))⟩
def pf110 : PFn := ⟨20, 3, [.tmp 6], sq
(rg [aO 3 (.boxp 90 (aT 0)),
aO 4 (.boxp 54 (aT 1)),
aO 5 (.boxp 54 (aT 2)),
aU 6 false] [3, 4, 5])
(sq
(rg [aN 7 9 3,
aN 8 3 4,
aP 9 136 [aT 7, aT 8],
aN 10 3 5,
aP 11 94 [aT 9, aT 10],
aM 12 11,
bF 13 12 false 8 3,
bL 14 12 false 13,
bN 15 12 false 3 4,
bO 16 12 false (.mlk (some 3) (.list .nil 3 []) false (aT 14) (aT 15)),
bN 17 12 false 3 5,
bO 18 12 false (.call 94 .pure [(aT 16), (aT 17)]),
aO 19 (.pick (aT 12) (.val (.bool true)) (aT 18)),
aM 6 19] [6])
.ret)⟩
def pf116 : PFn := ⟨19, 2, [.tmp 4], sq
(rg [aC 4 0] [0, 1])
(sq
(sq
(rg [aM 6 0,
aG 7 6,
aC 8 0] [0, 1, 7, 8])
(.blk 0 (.loop (sq
(rg [aB 9 .lss 8 7] [0, 1, 7, 8, 9])
(sq
(cn 9
.skip
(.ext 0))
(sq
(.blk 1 (sq
(rg [aM 10 8,
aM 5 10] [0, 1, 5, 7, 8])
(sq
(rg [aM 11 1,
aM 12 0,
aM 13 5,
aI 14 3 12 13,
aN 15 3 14,
aO 16 (.callv (aT 11) .pure [(aT 15)])] [0, 1, 5, 7, 8, 16])
(cn 16
(sq
(rg [aM 17 5,
aM 4 17] [4])
.ret)
.skip))))
(rg [aK 18 .add 8 1,
aM 8 18] [0, 1, 7, 8])))))))
(sq
(rg [aC 4 (-1)] [4])
.ret))⟩
def pf117 : PFn := ⟨39, 2, [.tmp 4], sq
(rg [aU 4 false] [0, 1])
(sq
(rg [aM 5 0,
aM 6 1,
aB 7 .eql 5 6,
aM 8 7,
bM 9 8 false 0,
bM 10 8 false 1,
bO 11 8 false (.bin .add (aT 9) (aT 10)),
bO 12 8 false (.bin .eql (aT 11) (cI 6)),
bM 13 8 false 12,
bM 14 13 true 0,
bM 15 13 true 1,
bO 16 13 true (.bin .neq (aT 14) (aT 15)),
bO 17 8 false (.pick (aT 13) (aT 16) (.val (.bool false))),
bM 18 8 false 17,
bM 19 18 true 0,
bO 20 18 true (.bin .gtr (aT 19) (cI 1)),
bO 21 8 false (.pick (aT 18) (aT 20) (.val (.bool false))),
bM 22 8 false 21,
bM 23 22 true 1,
bO 24 22 true (.bin .gtr (aT 23) (cI 1)),
bO 25 8 false (.pick (aT 22) (aT 24) (.val (.bool false))),
bM 26 8 false 25,
bM 27 26 false 0,
bM 28 26 false 1,
bO 29 26 false (.bin .add (aT 27) (aT 28)),
bO 30 26 false (.bin .eql (aT 29) (cI 8)),
bM 31 26 false 30,
bM 32 31 true 0,
bM 33 31 true 1,
bO 34 31 true (.bin .neq (aT 32) (aT 33)),
bO 35 26 false (.pick (aT 31) (aT 34) (.val (.bool false))),
bO 36 8 false (.pick (aT 26) (.val (.bool true)) (aT 35)),
bO 37 8 false (.un .not (aT 36)),
aO 38 (.pick (aT 8) (.val (.bool true)) (aT 37)),
aM 4 38] [4])
.ret)⟩
def pf119 : PFn := ⟨8, 1, [.tmp 2], sq
(rg [aO 2 (.mv (.val (.list .nil 1 [])))] [0])
(sq
(sq
(rg [aM 3 0,
aO 4 (.eqn false (aT 3) (.val (.list .nil 1 [])))] [0, 4])
(cn 4
(sq
(rg [aO 2 (.mv (.val (.list .nil 1 [])))] [2])
.ret)
.skip))
(sq
(rg [aO 5 (.bsl 0 1 [(iP 0)] []),
aM 6 0,
aO 7 (.app 3 1 8 (aT 5) (aT 6)),
aM 2 7] [2])
.ret))⟩
def pf120 : PFn := ⟨8, 1, [.tmp 2], sq
(rg [aO 2 (.mv (.val (.list .nil 1 [])))] [0])
(sq
(sq
(rg [aM 3 0,
aO 4 (.eqn false (aT 3) (.val (.list .nil 1 [])))] [0, 4])
(cn 4
(sq
(rg [aO 2 (.mv (.val (.list .nil 1 [])))] [2])
.ret)
.skip))
(sq
(rg [aO 5 (.bsl 0 1 [(.bool false)] []),
aM 6 0,
aO 7 (.app 4 1 1 (aT 5) (aT 6)),
aM 2 7] [2])
.ret))⟩
def pf121 : PFn := ⟨8, 1, [.tmp 2], sq
(rg [aO 2 (.mv (.val (.list .nil 4 [])))] [0])
(sq
(sq
(rg [aM 3 0,
aO 4 (.eqn false (aT 3) (.val (.list .nil 1 [])))] [0, 4])
(cn 4
(sq
(rg [aO 2 (.mv (.val (.list .nil 4 [])))] [2])
.ret)
.skip))
(sq
(rg [aO 5 (.bsl 0 4 [(iP 0), (iP 0), (iP 0), (iP 0)] []),
aM 6 0,
aO 7 (.app 75 4 32 (aT 5) (aT 6)),
aM 2 7] [2])
.ret))⟩
def pf122 : PFn := ⟨8, 1, [.tmp 2], sq
(rg [aO 2 (.mv (.val (.list .nil 6 [])))] [0])
(sq
(sq
(rg [aM 3 0,
aO 4 (.eqn false (aT 3) (.val (.list .nil 1 [])))] [0, 4])
(cn 4
(sq
(rg [aO 2 (.mv (.val (.list .nil 6 [])))] [2])
.ret)
.skip))
(sq
(rg [aO 5 (.bsl 0 6 [(iP 0), (iP 0), (iP 0), (iP 0), (iP 0), (iP 0)] []),
aM 6 0,
aO 7 (.app 78 6 48 (aT 5) (aT 6)),
aM 2 7] [2])
.ret))⟩
def pf123 : PFn := ⟨8, 1, [.tmp 2], sq
(rg [aO 2 (.mv (.val (.list .nil 5 [])))] [0])
(sq
(sq
(rg [aM 3 0,
aO 4 (.eqn false (aT 3) (.val (.list .nil 1 [])))] [0, 4])
(cn 4
(sq
(rg [aO 2 (.mv (.val (.list .nil 5 [])))] [2])
.ret)
.skip))
(sq
(rg [aO 5 (.bsl 0 5 [(iP 0), (iP 0), (iP 0), (.list .nil 3 []), (.list .nil 3 [])] []),
aM 6 0,
aO 7 (.app 68 5 72 (aT 5) (aT 6)),
aM 2 7] [2])
.ret))⟩
def pf124 : PFn := ⟨26, 3, [.tmp 6], sq
(rg [aO 3 (.boxp 68 (aT 0)),
aO 4 (.boxp 54 (aT 1)),
aU 6 false] [2, 3, 4])
(sq
(rg [aO 8 (.mkf (.func 153) [] [(aT 4)]),
aM 7 8] [2, 3, 7])
(sq
(rg [aF 9 3 3,
aL 10 9,
aF 11 3 3,
aL 12 11,
aG 13 12,
aF 14 0 3,
aL 15 14,
aK 16 .sub 15 1,
aO 17 (.mn (aT 13) [(aT 16)]),
aO 18 (.slc 3 (aT 10) none (some (aT 17)) none),
aM 19 7,
aP 20 70 [aT 18, aT 19],
aM 21 20,
bM 22 21 false 2,
bM 23 21 false 7,
bO 24 21 false (.call 70 .pure [(aT 22), (aT 23)]),
aO 25 (.pick (aT 21) (.val (.bool true)) (aT 24)),
aM 6 25] [6])
.ret))⟩
def pf125 : PFn := ⟨140, 3, [.tmp 6, .tmp 7], sq
(rg [aO 3 (.boxp 117 (aT 0)),
aO 5 (.boxp 54 (aT 2)),
aO 6 (.mv (.val (.list .nil 3 []))),
aU 7 false] [1, 3, 5])
(sq
(rg [aF 20 0 3,
aF 21 0 20,
aN 22 7 21,
aO 8 (.zer 30 (.agg [(iP 0), (iP 0), (.list .nil 1 []), (.list .nil 1 []), (.list .nil 4 []), (.list .nil 6 []), (.list .nil 5 [])])),
aZ (.st 7 (aT 8) (aT 22))] [1, 3, 5, 8])
(sq
(rg [aF 23 6 8,
aL 24 23,
aM 25 1,
aI 26 5 24 25,
aF 27 3 26,
aL 28 27,
aO 29 (.iaS 3 (aT 28) (cI 0)),
aN 30 3 29,
aO 9 (.zer 54 (.agg [(iP 0), (iP 0), (iP 0)])),
aZ (.st 3 (aT 9) (aT 30))] [1, 3, 5, 8, 9])
(sq
(rg [aN 31 7 8,
aP 32 97 [aT 31],
aM 10 32] [1, 3, 5, 8, 9, 10])
(sq
(rg [aF 33 0 3,
aN 34 9 33,
aM 35 1,
aM 36 10,
aP 37 98 [aT 34, aT 35, aT 36],
aM 11 37] [1, 3, 5, 8, 9, 10, 11])
(sq
(rg [aF 39 0 3,
aF 40 7 39,
aL 41 40,
aN 42 3 9,
aO 43 (.mlk (some 3) (iP 0) true (aT 41) (aT 42)),
aM 38 43,
aE 44 0 38,
aE 45 1 38,
aM 12 44,
aM 13 45] [1, 3, 5, 8, 9, 10, 11, 12, 13])
(sq
(.blk 0 (sq
(rg [aM 47 13,
aO 48 (.un .not (aT 47)),
aM 46 48] [1, 3, 5, 8, 9, 10, 11, 12, 46])
(cn 46
(sq
(rg [aM 49 10,
aF 50 0 9,
aL 51 50,
aF 52 1 9,
aL 53 52,
aO 54 (.bld [(iP 0), (iP 0)] [(0, 1, (aT 51)), (1, 1, (aT 53))]),
aO 55 (.mlk (some 2) (iP 0) false (aT 49) (aT 54)),
aM 56 10,
aF 57 0 5,
aL 58 57,
aF 59 1 5,
aL 60 59,
aO 61 (.bld [(iP 0), (iP 0)] [(0, 1, (aT 58)), (1, 1, (aT 60))]),
aO 62 (.mlk (some 2) (iP 0) false (aT 56) (aT 61)),
aM 14 55,
aM 15 62] [3, 5, 11, 14, 15])
(sq
(rg [aF 63 9 3,
aL 64 63,
aN 65 3 5,
aP 66 72 [aT 64, aT 65],
aO 67 (.un .not (aT 66)),
aM 68 67,
bM 69 68 true 14,
bM 70 68 true 15,
bO 71 68 true (.bin .eql (aT 69) (aT 70)),
bM 72 68 true 71,
bM 73 72 false 11,
bM 74 72 false 15,
bO 75 72 false (.call 79 .pure [(aT 73), (aT 74)]),
bO 76 72 false (.un .not (aT 75)),
bO 77 68 true (.pick (aT 72) (.val (.bool true)) (aT 76)),
aO 78 (.pick (aT 68) (aT 77) (.val (.bool false))),
aO 6 (.mv (.val (.list .nil 3 []))),
aM 7 78] [6, 7])
.ret))
(sq
(rg [aM 80 12,
aK 81 .geq 80 4,
aM 79 81] [1, 3, 5, 8, 9, 11, 79])
(cn 79
(sq
(rg [aN 82 12 3,
aF 83 6 8,
aL 84 83,
aM 85 1,
aI 86 5 84 85,
aN 87 5 86,
aN 88 3 5,
aP 89 95 [aT 82, aT 87, aT 88],
aE 90 0 89,
aE 91 1 89,
aM 6 90,
aM 7 91] [6, 7])
.ret)
.skip)))))
(sq
(rg [aF 93 0 8,
aN 94 4 93,
aF 95 4 8,
aL 96 95,
aM 97 11,
aP 98 154 [aT 94, aT 96, aT 97],
aM 92 98,
aE 99 0 92,
aE 100 1 92,
aM 16 99,
aM 17 100] [3, 5, 8, 9, 16])
(sq
(sq
(rg [aF 101 4 8,
aL 102 101,
aG 103 102,
aC 104 0] [3, 5, 9, 16, 102, 103, 104])
(.blk 1 (.loop (.trim (sq
(rg [aB 105 .lss 104 103] [3, 5, 9, 16, 102, 103, 104, 105])
(sq
(cn 105
.skip
(.ext 1))
(sq
(.blk 2 (sq
(rg [aM 106 104,
aI 107 4 102 104,
aN 108 4 107,
aO 19 (.zer 75 (.agg [(iP 0), (iP 0), (iP 0), (iP 0)])),
aM 18 106,
aZ (.st 4 (aT 19) (aT 108))] [3, 5, 9, 16, 18, 19, 102, 103, 104])
(sq
(rg [aF 109 0 19,
aL 110 109,
aF 111 0 9,
aL 112 111,
aB 113 .eql 110 112,
aM 114 113,
bF 115 114 true 1 19,
bL 116 114 true 115,
bF 117 114 true 1 9,
bL 118 114 true 117,
bO 119 114 true (.bin .eql (aT 116) (aT 118)),
aO 120 (.pick (aT 114) (aT 119) (.val (.bool false))),
aM 121 120,
bF 122 121 true 2 19,
bL 123 121 true 122,
bF 124 121 true 2 9,
bL 125 121 true 124,
bO 126 121 true (.bin .eql (aT 123) (aT 125)),
aO 127 (.pick (aT 121) (aT 126) (.val (.bool false)))] [3, 5, 9, 16, 18, 102, 103, 104, 127])
(cn 127
(sq
(rg [aM 128 16,
aM 129 18,
aI 130 1 128 129,
aL 131 130,
aM 132 131,
bF 133 132 true 9 3,
bL 134 132 true 133,
bN 135 132 true 3 5,
bO 136 132 true (.call 72 .pure [(aT 134), (aT 135)]),
bO 137 132 true (.un .not (aT 136)),
aO 138 (.pick (aT 132) (aT 137) (.val (.bool false))),
aO 6 (.mv (.val (.list .nil 3 []))),
aM 7 138] [6, 7])
.ret)
.skip))))
(rg [aK 139 .add 104 1,
aM 104 139] [3, 5, 9, 16, 102, 103, 104]))))))))
(sq
(rg [aO 6 (.mv (.val (.list .nil 3 []))),
aU 7 false] [6, 7])
.ret)))))))))⟩
def pf126 : PFn := ⟨19, 2, [.tmp 4], sq
(rg [aC 4 0] [0, 1])
(sq
(sq
(rg [aM 6 0,
aG 7 6,
aC 8 0] [0, 1, 7, 8])
(.blk 0 (.loop (sq
(rg [aB 9 .lss 8 7] [0, 1, 7, 8, 9])
(sq
(cn 9
.skip
(.ext 0))
(sq
(.blk 1 (sq
(rg [aM 10 8,
aM 5 10] [0, 1, 5, 7, 8])
(sq
(rg [aM 11 1,
aM 12 0,
aM 13 5,
aI 14 1 12 13,
aL 15 14,
aB 16 .eql 11 15] [0, 1, 5, 7, 8, 16])
(cn 16
(sq
(rg [aM 17 5,
aM 4 17] [4])
.ret)
.skip))))
(rg [aK 18 .add 8 1,
aM 8 18] [0, 1, 7, 8])))))))
(sq
(rg [aC 4 (-1)] [4])
.ret))⟩
def pf129 : PFn := ⟨117, 3, [], sq
(rg [aO 3 (.boxm 117 (aT 0))] [1, 2, 3])
(sq
(rg [aO 16 (.mkm (some 3)),
aM 6 16] [1, 2, 3, 6])
(.blk 0 (.loop (.trim (sq
(sq
(rg [aM 17 2,
aG 18 17,
aK 19 .gtr 18 0] [1, 2, 3, 6, 19])
(cn 19
.skip
(.ext 0)))
(.blk 1 (sq
(rg [aC 7 0] [1, 2, 3, 6, 7])
(sq
(sq
(rg [aM 20 2,
aG 21 20,
aC 22 0] [1, 2, 3, 6, 7, 20, 21, 22])
(.blk 2 (.loop (.trim (sq
(rg [aB 23 .lss 22 21] [1, 2, 3, 6, 7, 20, 21, 22, 23])
(sq
(cn 23
.skip
(.ext 2))
(sq
(.blk 3 (sq
(rg [aM 24 22,
aI 25 3 20 22,
aN 26 3 25,
aO 9 (.zer 54 (.agg [(iP 0), (iP 0), (iP 0)])),
aM 8 24,
aZ (.st 3 (aT 9) (aT 26))] [1, 2, 3, 6, 7, 8, 9, 20, 21, 22])
(sq
(rg [aF 27 11 3,
aL 28 27,
aN 29 3 9,
aO 30 (.mlk (some 3) (.agg [(iP 0), (iP 0)]) false (aT 28) (aT 29)),
aF 31 11 3,
aL 32 31,
aM 33 2,
aM 34 7,
aI 35 3 33 34,
aN 36 3 35,
aO 37 (.mlk (some 3) (.agg [(iP 0), (iP 0)]) false (aT 32) (aT 36)),
aP 38 131 [aT 30, aT 37]] [1, 2, 3, 6, 7, 8, 20, 21, 22, 38])
(cn 38
(rg [aM 39 8,
aM 7 39] [1, 2, 3, 6, 7, 20, 21, 22])
.skip))))
(rg [aK 40 .add 22 1,
aM 22 40] [1, 2, 3, 6, 7, 20, 21, 22]))))))))
(sq
(rg [aM 41 2,
aM 42 7,
aI 43 3 41 42,
aN 44 3 43,
aO 10 (.zer 54 (.agg [(iP 0), (iP 0), (iP 0)])),
aZ (.st 3 (aT 10) (aT 44))] [1, 2, 3, 6, 7, 10])
(sq
(rg [aM 45 2,
aM 46 7,
aM 47 2,
aM 48 2,
aG 49 48,
aK 50 .sub 49 1,
aI 51 3 47 50,
aN 52 3 51,
aI 53 3 45 46,
aZ (.st 3 (aT 53) (aT 52))] [1, 2, 3, 6, 10])
(sq
(rg [aM 54 2,
aM 55 2,
aG 56 55,
aK 57 .sub 56 1,
aO 58 (.slc 3 (aT 54) none (some (aT 57)) none),
aM 2 58] [1, 2, 3, 6, 10])
(sq
(sq
(rg [aM 59 6,
aN 60 3 10,
aO 61 (.mlk (some 3) (.bool false) false (aT 59) (aT 60))] [1, 2, 3, 6, 10, 61])
(cn 61
(.ext 1)
.skip))
(sq
(rg [aM 62 6,
aN 63 3 10,
aZ (.mup (some 3) (aT 62) (aT 63) (.val (.bool true)))] [1, 2, 3, 6, 10])
(sq
(.reg [aF 64 11 3,
aL 65 64,
aN 66 3 10,
aO 67 (.mlk (some 3) (.agg [(iP 0), (iP 0)]) false (aT 65) (aT 66)),
aO 68 (.fld none 0 (aT 67)),
aN 69 12 3,
aN 70 3 10,
aP 71 130 [aT 69, aT 70],
aB 72 .add 68 71,
aF 73 11 3,
aL 74 73,
aN 75 3 10,
aO 76 (.mlk (some 3) (.agg [(iP 0), (iP 0)]) false (aT 74) (aT 75)),
aO 77 (.fld none 1 (aT 76)),
aK 78 .add 77 1,
aO 79 (.bld [(iP 0), (iP 0)] [(0, 1, (aT 72)), (1, 1, (aT 78))]),
aO 11 (.zer 162 (.agg [(iP 0), (iP 0)])),
aZ (.st 2 (aT 11) (aT 79))] [(1, 16), (1, 17), (2, 16), (2, 17), (3, 16), (3, 17), (5, 16), (5, 17), (6, 16), (6, 17), (7, 16), (7, 17), (10, 16), (10, 17), (11, 16), (11, 17), (12, 16), (12, 17)] [1, 2, 3, 6, 10, 11])
(sq
(rg [aM 80 1,
aN 81 3 10,
aO 82 (.mlk (some 3) (.list .nil 3 []) false (aT 80) (aT 81)),
aG 83 82,
aC 84 0] [1, 2, 3, 6, 11, 82, 83, 84])
(.blk 4 (.loop (.trim (sq
(rg [aB 85 .lss 84 83] [1, 2, 3, 6, 11, 82, 83, 84, 85])
(sq
(cn 85
.skip
(.ext 4))
(sq
(.blk 5 (sq
(rg [aI 86 3 82 84,
aN 87 3 86,
aO 13 (.zer 54 (.agg [(iP 0), (iP 0), (iP 0)])),
aZ (.st 3 (aT 13) (aT 87))] [1, 2, 3, 6, 11, 13, 82, 83, 84])
(sq
(rg [aF 89 11 3,
aL 90 89,
aN 91 3 13,
aO 92 (.mlk (some 3) (.agg [(iP 0), (iP 0)]) true (aT 90) (aT 91)),
aM 88 92,
aE 93 0 88,
aE 94 1 88,
aO 14 (.zer 162 (.agg [(iP 0), (iP 0)])),
aZ (.st 2 (aT 14) (aT 93)),
aM 15 94] [1, 2, 3, 6, 11, 13, 14, 15, 82, 83, 84])
(sq
(rg [aM 95 6,
aN 96 3 13,
aO 97 (.mlk (some 3) (.bool false) false (aT 95) (aT 96)),
aO 98 (.un .not (aT 97)),
aM 99 98,
bM 100 99 true 15,
bO 101 99 true (.un .not (aT 100)),
bM 102 99 true 101,
bN 103 102 false 2 11,
bN 104 102 false 2 14,
bO 105 102 false (.call 131 .pure [(aT 103), (aT 104)]),
bO 106 99 true (.pick (aT 102) (.val (.bool true)) (aT 105)),
aO 107 (.pick (aT 99) (aT 106) (.val (.bool false)))] [1, 2, 3, 6, 11, 13, 82, 83, 84, 107])
(cn 107
(sq
(rg [aF 108 11 3,
aL 109 108,
aN 110 3 13,
aN 111 2 11,
aZ (.mup (some 3) (aT 109) (aT 110) (aT 111))] [1, 2, 3, 6, 11, 13, 82, 83, 84])
(rg [aM 112 2,
aN 113 3 13,
aO 114 (.bsl 1 3 [(iP 0), (iP 0), (iP 0)] [(0, 3, (aT 113))]),
aO 115 (.app 54 3 24 (aT 112) (aT 114)),
aM 2 115] [1, 2, 3, 6, 11, 82, 83, 84]))
.skip)))))
(rg [aK 116 .add 84 1,
aM 84 116] [1, 2, 3, 6, 11, 82, 83, 84]))))))))))))))))))))))⟩
def pf130 : PFn := ⟨9, 2, [.tmp 4], sq
(rg [aO 2 (.boxp 117 (aT 0)),
aO 3 (.boxp 54 (aT 1)),
aC 4 0] [2, 3])
(sq
(sq
(rg [aF 5 9 2,
aL 6 5,
aN 7 3 3,
aP 8 72 [aT 6, aT 7]] [8])
(cn 8
(sq
(rg [aC 4 101] [4])
.ret)
.skip))
(sq
(rg [aC 4 1] [4])
.ret))⟩
def pf131 : PFn := ⟨24, 2, [.tmp 4], sq
(rg [aO 2 (.boxp 162 (aT 0)),
aO 3 (.boxp 162 (aT 1)),
aU 4 false] [2, 3])
(sq
(rg [aF 5 0 2,
aL 6 5,
aF 7 0 3,
aL 8 7,
aB 9 .lss 6 8,
aM 10 9,
bF 11 10 false 0 2,
bL 12 10 false 11,
bF 13 10 false 0 3,
bL 14 10 false 13,
bO 15 10 false (.bin .eql (aT 12) (aT 14)),
bM 16 10 false 15,
bF 17 16 true 1 2,
bL 18 16 true 17,
bF 19 16 true 1 3,
bL 20 16 true 19,
bO 21 16 true (.bin .lss (aT 18) (aT 20)),
bO 22 10 false (.pick (aT 16) (aT 21) (.val (.bool false))),
aO 23 (.pick (aT 10) (.val (.bool true)) (aT 22)),
aM 4 23] [4])
.ret)⟩
def pf132 : PFn := ⟨16, 2, [.tmp 3], sq
(rg [aO 2 (.boxp 54 (aT 0)),
aU 3 false] [1, 2])
(sq
(rg [aF 4 0 2,
aL 5 4,
aF 6 0 1,
aL 7 6,
aB 8 .eql 5 7,
aM 9 8,
bF 10 9 true 1 2,
bL 11 9 true 10,
bF 12 9 true 1 1,
bL 13 9 true 12,
bO 14 9 true (.call 117 .pure [(aT 11), (aT 13)]),
aO 15 (.pick (aT 9) (aT 14) (.val (.bool false))),
aM 3 15] [3])
.ret)⟩
def pf134 : PFn := ⟨27, 2, [.tmp 4], sq
(rg [aO 2 (.boxp 25 (aT 0)),
aC 4 0] [1, 2])
(sq
(sq
(rg [aN 9 4 2,
aP 10 104 [aT 9],
aM 5 10] [1, 2, 5])
(sq
(rg [aM 11 5,
aK 12 .neq 11 0] [1, 2, 5, 12])
(cn 12
(sq
(rg [aM 13 5,
aM 4 13] [4])
.ret)
.skip)))
(sq
(sq
(rg [aM 14 1,
aG 15 14,
aC 16 0] [2, 14, 15, 16])
(.blk 0 (.loop (.trim (sq
(rg [aB 17 .lss 16 15] [2, 14, 15, 16, 17])
(sq
(cn 17
.skip
(.ext 0))
(sq
(.blk 1 (sq
(rg [aI 18 3 14 16,
aN 19 3 18,
aO 7 (.zer 54 (.agg [(iP 0), (iP 0), (iP 0)])),
aZ (.st 3 (aT 7) (aT 19))] [2, 7, 14, 15, 16])
(sq
(rg [aN 20 4 2,
aN 21 3 7,
aP 22 156 [aT 20, aT 21],
aM 8 22] [2, 8, 14, 15, 16])
(sq
(rg [aM 23 8,
aK 24 .neq 23 0] [2, 8, 14, 15, 16, 24])
(cn 24
(sq
(rg [aM 25 8,
aM 4 25] [4])
.ret)
.skip)))))
(rg [aK 26 .add 16 1,
aM 16 26] [2, 14, 15, 16]))))))))
(sq
(rg [aC 4 0] [4])
.ret)))⟩
def pf135 : PFn := ⟨56, 2, [.tmp 4], sq
(rg [aO 2 (.boxp 25 (aT 0)),
aO 3 (.boxp 54 (aT 1)),
aO 4 (.mv (.val (.list .nil 3 [])))] [2, 3])
(sq
(rg [aF 12 0 2,
aL 13 12,
aF 14 1 2,
aL 15 14,
aF 16 0 3,
aL 17 16,
aF 18 2 3,
aL 19 18,
aP 20 157 [aT 13, aT 15, aT 17, aT 19],
aM 11 20,
aE 21 0 11,
aE 22 1 11,
aM 5 21,
aM 6 22] [2, 3, 5, 6])
(sq
(sq
(rg [aM 23 6,
aO 24 (.un .not (aT 23))] [2, 3, 5, 24])
(cn 24
(sq
(rg [aO 4 (.mv (.val (.list .nil 3 [])))] [4])
.ret)
.skip))
(sq
(rg [aO 7 (.nacc 54 3)] [2, 3, 5, 7])
(sq
(sq
(rg [aC 25 0] [2, 3, 5, 7, 25])
(.blk 0 (.loop (sq
(rg [aK 26 .lss 25 6] [2, 3, 5, 7, 25, 26])
(sq
(cn 26
.skip
(.ext 0))
(sq
(.blk 1 (sq
(rg [aM 27 25,
aM 8 27] [2, 3, 5, 7, 8, 25])
(sq
(sq
(rg [aF 28 2 2,
aL 29 28,
aM 30 5,
aI 31 1 29 30,
aL 32 31,
aM 33 8,
aB 34 .shr 32 33,
aK 35 .and 34 1,
aK 36 .eql 35 0] [2, 3, 5, 7, 8, 25, 36])
(cn 36
(.ext 1)
.skip))
(sq
(rg [aM 38 8,
aF 39 2 3,
aL 40 39,
aK 41 .add 40 2,
aK 42 .rem 41 4,
aP 43 158 [aT 38, aT 42],
aM 37 43,
aE 44 0 37,
aE 45 1 37,
aM 9 44,
aM 10 45] [2, 3, 5, 7, 8, 9, 10, 25])
(sq
(rg [aM 46 10] [2, 3, 5, 7, 8, 9, 25, 46])
(cn 46
(rg [aM 47 7,
aM 48 5,
aM 49 8,
aM 50 9,
aO 51 (.bld [(iP 0), (iP 0), (iP 0)] [(0, 1, (aT 48)), (1, 1, (aT 49)), (2, 1, (aT 50))]),
aO 52 (.bsl 1 3 [(iP 0), (iP 0), (iP 0)] [(0, 3, (aT 51))]),
aO 53 (.app 54 3 24 (aT 47) (aT 52)),
aM 7 53] [2, 3, 5, 7, 25])
.skip))))))
(rg [aK 54 .add 25 1,
aM 25 54] [2, 3, 5, 7, 25])))))))
(sq
(rg [aM 55 7,
aM 4 55] [4])
.ret)))))⟩
def pf136 : PFn := ⟨111, 2, [.tmp 4], sq
(rg [aO 2 (.boxp 90 (aT 0)),
aO 3 (.boxp 54 (aT 1)),
aO 4 (.mv (.val (.list .nil 3 [])))] [2, 3])
(sq
(rg [aF 14 0 2,
aF 15 0 14,
aN 16 4 15,
aO 5 (.zer 25 (.agg [(iP 0), (iP 0), (.list .nil 1 []), (.list .nil 1 [])])),
aZ (.st 4 (aT 5) (aT 16))] [3, 5])
(sq
(rg [aF 17 0 3,
aL 18 17,
aF 19 0 5,
aL 20 19,
aB 21 .rem 18 20,
aF 22 0 3,
aL 23 22,
aF 24 0 5,
aL 25 24,
aB 26 .quo 23 25,
aM 6 21,
aM 7 26] [3, 5, 6, 7])
(sq
(sq
(rg [aF 27 2 3,
aL 28 27] [3, 5, 6, 7, 28])
(.blk 0 (sq
(rg [aK 32 .eql 28 0,
aM 31 32] [3, 5, 6, 7, 28, 31])
(cn 31
(rg [aM 33 6,
aK 34 .add 33 1,
aM 6 34] [3, 5, 6, 7])
(sq
(rg [aK 36 .eql 28 1,
aM 35 36] [3, 5, 6, 7, 28, 35])
(cn 35
(rg [aM 37 7,
aK 38 .add 37 1,
aM 7 38] [3, 5, 6, 7])
(sq
(rg [aK 40 .eql 28 2,
aM 39 40] [3, 5, 6, 7, 39])
(cn 39
(rg [aM 41 6,
aK 42 .sub 41 1,
aM 6 42] [3, 5, 6, 7])
(rg [aM 29 7,
aK 30 .sub 29 1,
aM 7 30] [3, 5, 6, 7])))))))))
(sq
(sq
(rg [aM 43 6,
aK 44 .lss 43 0,
aM 45 44,
bM 46 45 false 6,
bF 47 45 false 0 5,
bL 48 45 false 47,
bO 49 45 false (.bin .geq (aT 46) (aT 48)),
aO 50 (.pick (aT 45) (.val (.bool true)) (aT 49)),
aM 51 50,
bM 52 51 false 7,
bO 53 51 false (.bin .lss (aT 52) (cI 0)),
aO 54 (.pick (aT 51) (.val (.bool true)) (aT 53)),
aM 55 54,
bM 56 55 false 7,
bF 57 55 false 1 5,
bL 58 55 false 57,
bO 59 55 false (.bin .geq (aT 56) (aT 58)),
aO 60 (.pick (aT 55) (.val (.bool true)) (aT 59))] [3, 5, 6, 7, 60])
(cn 60
(sq
(rg [aO 4 (.mv (.val (.list .nil 3 [])))] [4])
.ret)
.skip))
(sq
(rg [aM 61 7,
aF 62 0 5,
aL 63 62,
aB 64 .mul 61 63,
aM 65 6,
aB 66 .add 64 65,
aF 67 2 3,
aL 68 67,
aK 69 .add 68 2,
aK 70 .rem 69 4,
aM 8 66,
aM 9 70] [5, 8, 9])
(sq
(rg [aO 10 (.nacc 54 3)] [5, 8, 9, 10])
(sq
(sq
(rg [aC 71 0] [5, 8, 9, 10, 71])
(.blk 1 (.loop (sq
(rg [aK 72 .lss 71 6] [5, 8, 9, 10, 71, 72])
(sq
(cn 72
.skip
(.ext 1))
(sq
(.blk 2 (sq
(rg [aM 73 71,
aM 11 73] [5, 8, 9, 10, 11, 71])
(sq
(rg [aF 74 2 5,
aL 75 74,
aM 76 8,
aI 77 1 75 76,
aL 78 77,
aM 79 11,
aB 80 .shr 78 79,
aK 81 .and 80 1,
aK 82 .eql 81 1] [5, 8, 9, 10, 11, 71, 82])
(cn 82
(sq
(rg [aM 84 11,
aP 85 102 [aT 84],
aM 83 85,
aE 86 0 83,
aE 87 1 83,
aM 12 86,
aM 13 87] [5, 8, 9, 10, 11, 12, 13, 71])
(sq
(rg [aM 88 9] [5, 8, 9, 10, 11, 12, 13, 71, 88])
(.blk 3 (sq
(rg [aM 90 12,
aB 91 .eql 88 90,
aM 89 91] [5, 8, 9, 10, 11, 12, 13, 71, 88, 89])
(cn 89
(rg [aM 92 10,
aM 93 8,
aM 94 11,
aM 95 13,
aO 96 (.bld [(iP 0), (iP 0), (iP 0)] [(0, 1, (aT 93)), (1, 1, (aT 94)), (2, 1, (aT 95))]),
aO 97 (.bsl 1 3 [(iP 0), (iP 0), (iP 0)] [(0, 3, (aT 96))]),
aO 98 (.app 54 3 24 (aT 92) (aT 97)),
aM 10 98] [5, 8, 9, 10, 71])
(sq
(rg [aM 100 13,
aB 101 .eql 88 100,
aM 99 101] [5, 8, 9, 10, 11, 12, 71, 99])
(cn 99
(rg [aM 102 10,
aM 103 8,
aM 104 11,
aM 105 12,
aO 106 (.bld [(iP 0), (iP 0), (iP 0)] [(0, 1, (aT 103)), (1, 1, (aT 104)), (2, 1, (aT 105))]),
aO 107 (.bsl 1 3 [(iP 0), (iP 0), (iP 0)] [(0, 3, (aT 106))]),
aO 108 (.app 54 3 24 (aT 102) (aT 107)),
aM 10 108] [5, 8, 9, 10, 71])
.skip)))))))
.skip))))
(rg [aK 109 .add 71 1,
aM 71 109] [5, 8, 9, 10, 71])))))))
(sq
(rg [aM 110 10,
aM 4 110] [4])
.ret))))))))⟩
def pf137 : PFn := ⟨14, 2, [], sq
(rg [aM 5 0,
aG 6 5,
aM 4 6] [0, 1, 4])
(rg [aM 7 0,
aM 8 4,
aM 9 4,
aO 10 (.conv .u64 (aT 9)),
aP 11 160 [aT 10],
aM 12 1,
aO 13 (.call 159 .opn [(aT 7), (cI 0), (aT 8), (aT 11), (aT 12)])] [])⟩
def pf138 : PFn := ⟨61, 1, [.tmp 2], sq
(rg [aO 2 (.mv (.val (.list .nil 3 [])))] [0])
(sq
(sq
(rg [aM 6 0,
aG 7 6,
aK 8 .lss 7 2] [0, 8])
(cn 8
(sq
(rg [aM 9 0,
aM 2 9] [2])
.ret)
.skip))
(sq
(sq
(rg [aC 3 1] [0, 3])
(.blk 0 (.loop (sq
(sq
(rg [aM 10 3,
aM 11 0,
aG 12 11,
aB 13 .lss 10 12] [0, 3, 13])
(cn 13
.skip
(.ext 0)))
(sq
(.blk 1 (sq
(rg [aM 16 0,
aM 17 3,
aI 18 3 16 17,
aN 19 3 18,
aM 20 0,
aM 21 3,
aK 22 .sub 21 1,
aI 23 3 20 22,
aN 24 3 23,
aO 25 (.eqs false [true, true, true] (aT 19) (aT 24))] [0, 3, 25])
(cn 25
(sq
(rg [aM 26 0,
aM 27 3,
aO 28 (.slc 3 (aT 26) (some (aT 27)) none none),
aM 4 28] [0, 3, 4])
(sq
(sq
(rg [aC 5 1] [0, 3, 4, 5])
(.blk 2 (.loop (sq
(sq
(rg [aM 29 5,
aM 30 4,
aG 31 30,
aB 32 .lss 29 31] [0, 3, 4, 5, 32])
(cn 32
.skip
(.ext 2)))
(sq
(.blk 3 (sq
(rg [aM 35 4,
aM 36 5,
aI 37 3 35 36,
aN 38 3 37,
aM 39 4,
aM 40 5,
aK 41 .sub 40 1,
aI 42 3 39 41,
aN 43 3 42,
aO 44 (.eqs true [true, true, true] (aT 38) (aT 43))] [0, 3, 4, 5, 44])
(cn 44
(sq
(rg [aM 45 0,
aM 46 3,
aM 47 4,
aM 48 5,
aI 49 3 47 48,
aN 50 3 49,
aI 51 3 45 46,
aZ (.st 3 (aT 51) (aT 50))] [0, 3, 4, 5])
(rg [aM 52 3,
aK 53 .add 52 1,
aM 3 53] [0, 3, 4, 5]))
.skip)))
(rg [aM 33 5,
aK 34 .add 33 1,
aM 5 34] [0, 3, 4, 5]))))))
(sq
(rg [aM 54 0,
aM 55 3,
aO 56 (.slc 3 (aT 54) (some (aT 55)) none none),
aZ (.clr 3 [(iP 0), (iP 0), (iP 0)] (aT 56))] [0, 3])
(sq
(rg [aM 57 0,
aM 58 3,
aO 59 (.slc 3 (aT 57) none (some (aT 58)) none),
aM 2 59] [2])
.ret))))
.skip)))
(rg [aM 14 3,
aK 15 .add 14 1,
aM 3 15] [0, 3]))))))
(sq
(rg [aM 60 0,
aM 2 60] [2])
.ret)))⟩
def pf143 : PFn := ⟨19, 2, [.tmp 4], sq
(rg [aO 3 (.boxp 54 (aT 1)),
aC 4 0] [0, 3])
(sq
(sq
(rg [aM 6 0,
aG 7 6,
aC 8 0] [0, 3, 7, 8])
(.blk 0 (.loop (sq
(rg [aB 9 .lss 8 7] [0, 3, 7, 8, 9])
(sq
(cn 9
.skip
(.ext 0))
(sq
(.blk 1 (sq
(rg [aM 10 8,
aM 5 10] [0, 3, 5, 7, 8])
(sq
(rg [aN 11 3 3,
aM 12 0,
aM 13 5,
aI 14 3 12 13,
aN 15 3 14,
aO 16 (.eqs false [true, true, true] (aT 11) (aT 15))] [0, 3, 5, 7, 8, 16])
(cn 16
(sq
(rg [aM 17 5,
aM 4 17] [4])
.ret)
.skip))))
(rg [aK 18 .add 8 1,
aM 8 18] [0, 3, 7, 8])))))))
(sq
(rg [aC 4 (-1)] [4])
.ret))⟩
def pf145 : PFn := ⟨17, 2, [.tmp 4, .tmp 5], sq
(rg [aO 2 (.boxp 25 (aT 0)),
aO 4 (.mv (.val (.list .nil 2 []))),
aC 5 0] [1, 2])
(sq
(sq
(rg [aN 7 4 2,
aM 8 1,
aP 9 54 [aT 7, aT 8],
aM 6 9] [1, 2, 6])
(sq
(rg [aM 10 6,
aK 11 .neq 10 0] [1, 2, 6, 11])
(cn 11
(sq
(rg [aM 12 6,
aO 4 (.mv (.val (.list .nil 2 []))),
aM 5 12] [4, 5])
.ret)
.skip)))
(sq
(rg [aN 13 4 2,
aM 14 1,
aP 15 163 [aT 13, aT 14],
aP 16 162 [aT 15],
aM 4 16,
aC 5 0] [4, 5])
.ret))⟩
def pf146 : PFn := ⟨11, 1, [], sq
(rg [aM 3 0,
aG 4 3,
aM 2 4] [0, 2])
(rg [aM 5 0,
aM 6 2,
aM 7 2,
aO 8 (.conv .u64 (aT 7)),
aP 9 160 [aT 8],
aO 10 (.call 164 .opn [(aT 5), (cI 0), (aT 6), (aT 9)])] [])⟩
def pf147 : PFn := ⟨61, 1, [.tmp 2], sq
(rg [aO 2 (.mv (.val (.list .nil 1 [])))] [0])
(sq
(sq
(rg [aM 6 0,
aG 7 6,
aK 8 .lss 7 2] [0, 8])
(cn 8
(sq
(rg [aM 9 0,
aM 2 9] [2])
.ret)
.skip))
(sq
(sq
(rg [aC 3 1] [0, 3])
(.blk 0 (.loop (sq
(sq
(rg [aM 10 3,
aM 11 0,
aG 12 11,
aB 13 .lss 10 12] [0, 3, 13])
(cn 13
.skip
(.ext 0)))
(sq
(.blk 1 (sq
(rg [aM 16 0,
aM 17 3,
aI 18 1 16 17,
aL 19 18,
aM 20 0,
aM 21 3,
aK 22 .sub 21 1,
aI 23 1 20 22,
aL 24 23,
aB 25 .eql 19 24] [0, 3, 25])
(cn 25
(sq
(rg [aM 26 0,
aM 27 3,
aO 28 (.slc 1 (aT 26) (some (aT 27)) none none),
aM 4 28] [0, 3, 4])
(sq
(sq
(rg [aC 5 1] [0, 3, 4, 5])
(.blk 2 (.loop (sq
(sq
(rg [aM 29 5,
aM 30 4,
aG 31 30,
aB 32 .lss 29 31] [0, 3, 4, 5, 32])
(cn 32
.skip
(.ext 2)))
(sq
(.blk 3 (sq
(rg [aM 35 4,
aM 36 5,
aI 37 1 35 36,
aL 38 37,
aM 39 4,
aM 40 5,
aK 41 .sub 40 1,
aI 42 1 39 41,
aL 43 42,
aB 44 .neq 38 43] [0, 3, 4, 5, 44])
(cn 44
(sq
(rg [aM 45 0,
aM 46 3,
aM 47 4,
aM 48 5,
aI 49 1 47 48,
aL 50 49,
aI 51 1 45 46,
aZ (.st 1 (aT 51) (aT 50))] [0, 3, 4, 5])
(rg [aM 52 3,
aK 53 .add 52 1,
aM 3 53] [0, 3, 4, 5]))
.skip)))
(rg [aM 33 5,
aK 34 .add 33 1,
aM 5 34] [0, 3, 4, 5]))))))
(sq
(rg [aM 54 0,
aM 55 3,
aO 56 (.slc 1 (aT 54) (some (aT 55)) none none),
aZ (.clr 1 [(iP 0)] (aT 56))] [0, 3])
(sq
(rg [aM 57 0,
aM 58 3,
aO 59 (.slc 1 (aT 57) none (some (aT 58)) none),
aM 2 59] [2])
.ret))))
.skip)))
(rg [aM 14 3,
aK 15 .add 14 1,
aM 3 15] [0, 3]))))))
(sq
(rg [aM 60 0,
aM 2 60] [2])
.ret)))⟩
theorem pf147_ok : fnOk Tryz.prog 147 pf147 = true := by kernel_rfl
def pf149 : PFn := ⟨22, 1, [.tmp 2, .tmp 3, .tmp 4], sq
(rg [aC 2 0,
aC 3 0,
aC 4 0] [0])
(sq
(sq
(rg [aM 5 0] [0, 5])
(.blk 0 (sq
(sq
(rg [aK 7 .eql 5 0,
aM 6 7] [0, 5, 6])
(cn 6
.skip
(rg [aK 8 .eql 5 1,
aM 6 8] [0, 5, 6])))
(cn 6
(sq
(rg [aM 9 0,
aM 10 0,
aK 11 .add 10 2,
aM 2 9,
aM 3 11,
aC 4 0] [2, 3, 4])
.ret)
(sq
(sq
(rg [aK 13 .eql 5 2,
aM 12 13] [0, 5, 12])
(cn 12
.skip
(sq
(rg [aK 14 .eql 5 3,
aM 12 14] [0, 5, 12])
(cn 12
.skip
(sq
(rg [aK 15 .eql 5 4,
aM 12 15] [0, 5, 12])
(cn 12
.skip
(rg [aK 16 .eql 5 5,
aM 12 16] [0, 12])))))))
(cn 12
(sq
(rg [aM 17 0,
aK 18 .sub 17 2,
aM 19 0,
aK 20 .sub 19 1,
aK 21 .rem 20 4,
aM 2 18,
aM 3 21,
aC 4 0] [2, 3, 4])
.ret)
.skip))))))
(sq
(rg [aC 2 0,
aC 3 0,
aC 4 1] [2, 3, 4])
.ret))⟩
def pf150 : PFn := ⟨6, 1, [.tmp 2], sq
(rg [aU 2 false] [0])
(sq
(rg [aM 3 0,
aM 4 0,
aB 5 .neq 3 4,
aM 2 5] [2])
.ret)⟩
def pf153 : PFn := ⟨16, 2, [.tmp 3], sq
(rg [aO 2 (.boxp 54 (aT 0)),
aU 3 false] [1, 2])
(sq
(rg [aF 4 0 2,
aL 5 4,
aF 6 0 1,
aL 7 6,
aB 8 .eql 5 7,
aM 9 8,
bF 10 9 true 1 2,
bL 11 9 true 10,
bF 12 9 true 1 1,
bL 13 9 true 12,
bO 14 9 true (.bin .eql (aT 11) (aT 13)),
aO 15 (.pick (aT 9) (aT 14) (.val (.bool false))),
aM 3 15] [3])
.ret)⟩
def pf154 : PFn := ⟨84, 3, [.tmp 6, .tmp 7], sq
(rg [aO 3 (.boxp 25 (aT 0)),
aO 6 (.mv (.val (.list .nil 1 []))),
aC 7 0] [1, 2, 3])
(sq
(sq
(rg [aN 18 4 3,
aM 19 1,
aP 20 54 [aT 18, aT 19],
aM 8 20] [1, 2, 3, 8])
(sq
(rg [aM 21 8,
aK 22 .neq 21 0] [1, 2, 3, 8, 22])
(cn 22
(sq
(rg [aM 23 8,
aO 6 (.mv (.val (.list .nil 1 []))),
aM 7 23] [6, 7])
.ret)
.skip)))
(sq
(rg [aN 24 4 3,
aM 25 1,
aP 26 163 [aT 24, aT 25],
aM 9 26] [1, 2, 3, 9])
(sq
(rg [aN 27 4 3,
aM 28 1,
aM 29 9,
aM 30 2,
aP 31 167 [aT 27, aT 28, aT 29, aT 30],
aM 10 31] [1, 9, 10])
(sq
(rg [aM 32 1,
aG 33 32,
aO 34 (.mks 4 1 1 [(.bool false)] (aT 33) (aT 33)),
aM 11 34] [1, 9, 10, 11])
(sq
(sq
(rg [aU 12 true] [1, 9, 10, 11, 12])
(.blk 0 (.loop (.trim (sq
(sq
(rg [aM 35 12] [1, 9, 10, 11, 35])
(cn 35
.skip
(.ext 0)))
(.blk 1 (sq
(rg [aU 12 false] [1, 9, 10, 11, 12])
(sq
(rg [aM 36 10,
aG 37 36,
aC 38 0] [1, 9, 10, 11, 12, 36, 37, 38])
(.blk 2 (.loop (.trim (sq
(rg [aB 39 .lss 38 37] [1, 9, 10, 11, 12, 36, 37, 38, 39])
(sq
(cn 39
.skip
(.ext 2))
(sq
(.blk 3 (sq
(rg [aM 40 38,
aI 41 3 36 38,
aN 42 3 41,
aO 14 (.zer 200 (.agg [(.list .nil 1 []), (.bool false), (.bool false)])),
aM 13 40,
aZ (.st 3 (aT 14) (aT 42))] [1, 9, 10, 11, 12, 13, 14, 36, 37, 38])
(sq
(sq
(rg [aM 43 11,
aM 44 13,
aI 45 1 43 44,
aL 46 45,
aM 47 46,
bF 48 47 false 1 14,
bL 49 47 false 48,
bO 50 47 false (.un .not (aT 49)),
aO 51 (.pick (aT 47) (.val (.bool true)) (aT 50))] [1, 9, 10, 11, 12, 13, 14, 36, 37, 38, 51])
(cn 51
(.ext 3)
.skip))
(sq
(rg [aU 15 true] [1, 9, 10, 11, 12, 13, 14, 15, 36, 37, 38])
(sq
(sq
(rg [aF 52 0 14,
aL 53 52,
aG 54 53,
aC 55 0] [1, 9, 10, 11, 12, 13, 14, 15, 36, 37, 38, 53, 54, 55])
(.blk 4 (.loop (sq
(rg [aB 56 .lss 55 54] [1, 9, 10, 11, 12, 13, 14, 15, 36, 37, 38, 53, 54, 55, 56])
(sq
(cn 56
.skip
(.ext 4))
(sq
(.blk 5 (sq
(rg [aI 57 1 53 55,
aL 58 57,
aM 17 58] [1, 9, 10, 11, 12, 13, 14, 15, 17, 36, 37, 38, 53, 54, 55])
(rg [aM 59 15,
aM 60 59,
bF 61 60 true 2 14,
bL 62 60 true 61,
bO 63 60 true (.un .not (aT 62)),
bM 64 60 true 63,
bM 65 64 false 1,
bM 66 64 false 9,
bM 67 64 false 11,
bM 68 64 false 13,
bM 69 64 false 17,
bO 70 64 false (.call 168 .pure [(aT 65), (aT 66), (aT 67), (aT 68), (aT 69)]),
bO 71 60 true (.pick (aT 64) (.val (.bool true)) (aT 70)),
aO 72 (.pick (aT 60) (aT 71) (.val (.bool false))),
aM 15 72] [1, 9, 10, 11, 12, 13, 14, 15, 36, 37, 38, 53, 54, 55])))
(rg [aK 73 .add 55 1,
aM 55 73] [1, 9, 10, 11, 12, 13, 14, 15, 36, 37, 38, 53, 54, 55])))))))
(rg [aM 74 11,
aM 75 13,
aM 76 15,
aM 77 12,
aM 78 77,
bM 79 78 false 15,
aO 80 (.pick (aT 78) (.val (.bool true)) (aT 79)),
aI 81 1 74 75,
aZ (.st 1 (aT 81) (aT 76)),
aM 12 80] [1, 9, 10, 11, 12, 36, 37, 38]))))))
(rg [aK 82 .add 38 1,
aM 38 82] [1, 9, 10, 11, 12, 36, 37, 38])))))))))))))))
(sq
(rg [aM 83 11,
aM 6 83,
aC 7 0] [6, 7])
.ret))))))⟩
def pf156 : PFn := ⟨33, 2, [.tmp 4], sq
(rg [aO 2 (.boxp 25 (aT 0)),
aO 3 (.boxp 54 (aT 1)),
aC 4 0] [2, 3])
(sq
(sq
(rg [aN 8 3 3,
aP 9 170 [aT 8],
aM 7 9,
aE 10 0 7,
aE 11 1 7,
aO 5 (.zer 54 (.agg [(iP 0), (iP 0), (iP 0)])),
aZ (.st 3 (aT 5) (aT 10)),
aM 6 11] [2, 3, 6])
(sq
(rg [aM 12 6,
aK 13 .neq 12 0] [2, 3, 6, 13])
(cn 13
(sq
(rg [aM 14 6,
aM 4 14] [4])
.ret)
.skip)))
(sq
(sq
(rg [aN 15 4 2,
aF 16 0 3,
aL 17 16,
aP 18 171 [aT 15, aT 17],
aO 19 (.un .not (aT 18)),
aM 20 19,
bF 21 20 false 2 2,
bL 22 20 false 21,
bF 23 20 false 0 3,
bL 24 20 false 23,
bO 25 20 false (.iaS 1 (aT 22) (aT 24)),
bL 26 20 false 25,
bF 27 20 false 1 3,
bL 28 20 false 27,
bO 29 20 false (.bin .shr (aT 26) (aT 28)),
bO 30 20 false (.bin .and (aT 29) (cI 1)),
bO 31 20 false (.bin .eql (aT 30) (cI 0)),
aO 32 (.pick (aT 20) (.val (.bool true)) (aT 31))] [32])
(cn 32
(sq
(rg [aC 4 2] [4])
.ret)
.skip))
(sq
(rg [aC 4 0] [4])
.ret)))⟩
def pf157 : PFn := ⟨54, 4, [.tmp 8, .tmp 9], sq
(rg [aC 8 0,
aU 9 false] [0, 1, 2, 3])
(sq
(rg [aM 12 2,
aM 13 0,
aB 14 .rem 12 13,
aM 15 2,
aM 16 0,
aB 17 .quo 15 16,
aM 10 14,
aM 11 17] [0, 1, 3, 10, 11])
(sq
(sq
(rg [aM 18 3] [0, 1, 3, 10, 11, 18])
(.blk 0 (sq
(sq
(rg [aK 20 .eql 18 0,
aM 19 20] [0, 1, 3, 10, 11, 18, 19])
(cn 19
.skip
(rg [aK 21 .eql 18 2,
aM 19 21] [0, 1, 3, 10, 11, 18, 19])))
(cn 19
(rg [aM 22 10,
aM 23 3,
aO 24 (.bin .sub (cI 1) (aT 23)),
aB 25 .add 22 24,
aM 10 25] [0, 1, 10, 11])
(sq
(sq
(rg [aK 27 .eql 18 1,
aM 26 27] [0, 1, 3, 10, 11, 18, 26])
(cn 26
.skip
(rg [aK 28 .eql 18 3,
aM 26 28] [0, 1, 3, 10, 11, 26])))
(cn 26
(rg [aM 29 11,
aM 30 3,
aO 31 (.bin .sub (cI 2) (aT 30)),
aB 32 .add 29 31,
aM 11 32] [0, 1, 10, 11])
.skip))))))
(sq
(rg [aM 33 11,
aM 34 0,
aB 35 .mul 33 34,
aM 36 10,
aB 37 .add 35 36,
aM 38 10,
aK 39 .geq 38 0,
aM 40 39,
bM 41 40 true 10,
bM 42 40 true 0,
bO 43 40 true (.bin .lss (aT 41) (aT 42)),
aO 44 (.pick (aT 40) (aT 43) (.val (.bool false))),
aM 45 44,
bM 46 45 true 11,
bO 47 45 true (.bin .geq (aT 46) (cI 0)),
aO 48 (.pick (aT 45) (aT 47) (.val (.bool false))),
aM 49 48,
bM 50 49 true 11,
bM 51 49 true 1,
bO 52 49 true (.bin .lss (aT 50) (aT 51)),
aO 53 (.pick (aT 49) (aT 52) (.val (.bool false))),
aM 8 37,
aM 9 53] [8, 9])
.ret)))⟩
def pf158 : PFn := ⟨28, 2, [.tmp 4, .tmp 5], sq
(rg [aC 4 0,
aU 5 false] [0, 1])
(sq
(rg [aM 10 0,
aP 11 149 [aT 10],
aM 9 11,
aE 12 0 9,
aE 13 1 9,
aE 14 2 9,
aM 6 12,
aM 7 13,
aM 8 14] [1, 6, 7, 8])
(sq
(.blk 0 (sq
(rg [aM 16 8,
aK 17 .neq 16 0,
aM 15 17] [1, 6, 7, 15])
(cn 15
(sq
(rg [aC 4 0,
aU 5 false] [4, 5])
.ret)
(sq
(rg [aM 19 1,
aM 20 6,
aB 21 .eql 19 20,
aM 18 21] [1, 6, 7, 18])
(cn 18
(sq
(rg [aM 22 7,
aM 4 22,
aU 5 true] [4, 5])
.ret)
(sq
(rg [aM 24 1,
aM 25 7,
aB 26 .eql 24 25,
aM 23 26] [6, 23])
(cn 23
(sq
(rg [aM 27 6,
aM 4 27,
aU 5 true] [4, 5])
.ret)
.skip)))))))
(sq
(rg [aC 4 0,
aU 5 false] [4, 5])
.ret)))⟩
def pf159 : PFn := ⟨148, 5, [], sq
(rg [aU 10 true] [0, 1, 2, 3, 4, 10])
(sq
(rg [aU 11 true] [0, 1, 2, 3, 4, 10, 11])
(.blk 0 (.loop (.blk 1 (sq
(rg [aM 21 2,
aM 22 1,
aB 23 .sub 21 22,
aM 12 23] [0, 1, 2, 3, 4, 10, 11, 12])
(sq
(sq
(rg [aM 24 12,
aK 25 .leq 24 12] [0, 1, 2, 3, 4, 10, 11, 12, 25])
(cn 25
(sq
(rg [aM 26 0,
aM 27 1,
aM 28 2,
aM 29 4,
aO 30 (.call 172 .opn [(aT 26), (aT 27), (aT 28), (aT 29)])] [])
.ret)
.skip))
(sq
(sq
(rg [aM 31 3,
aK 32 .eql 31 0] [0, 1, 2, 3, 4, 10, 11, 12, 32])
(cn 32
(sq
(rg [aM 33 0,
aM 34 1,
aM 35 2,
aM 36 4,
aO 37 (.call 173 .opn [(aT 33), (aT 34), (aT 35), (aT 36)])] [])
.ret)
.skip))
(sq
(sq
(rg [aM 38 10,
aO 39 (.un .not (aT 38))] [0, 1, 2, 3, 4, 10, 11, 12, 39])
(cn 39
(sq
(rg [aM 40 0,
aM 41 1,
aM 42 2,
aM 43 4,
aO 44 (.call 174 .opn [(aT 40), (aT 41), (aT 42), (aT 43)])] [0, 1, 2, 3, 4, 10, 11, 12])
(rg [aM 45 3,
aK 46 .sub 45 1,
aM 3 46] [0, 1, 2, 3, 4, 10, 11, 12]))
.skip))
(sq
(rg [aM 48 0,
aM 49 1,
aM 50 2,
aM 51 4,
aP 52 175 [aT 48, aT 49, aT 50, aT 51],
aM 47 52,
aE 53 0 47,
aE 54 1 47,
aM 13 53,
aM 14 54] [0, 1, 2, 3, 4, 10, 11, 12, 13, 14])
(sq
(sq
(rg [aM 55 14,
aK 56 .eql 55 2] [0, 1, 2, 3, 4, 10, 11, 12, 13, 14, 56])
(cn 56
(sq
(rg [aM 57 0,
aM 58 1,
aM 59 2,
aM 60 4,
aO 61 (.call 176 .opn [(aT 57), (aT 58), (aT 59), (aT 60)])] [0, 1, 2, 3, 4, 10, 11, 12, 13])
(sq
(rg [aM 62 2,
aK 63 .sub 62 1,
aM 64 13,
aM 65 1,
aB 66 .sub 64 65,
aB 67 .sub 63 66,
aM 13 67] [0, 1, 2, 3, 4, 10, 11, 12, 13])
(rg [aC 14 1] [0, 1, 2, 3, 4, 10, 11, 12, 13, 14])))
.skip))
(sq
(sq
(rg [aM 68 10,
aM 69 68,
bM 70 69 true 11,
aO 71 (.pick (aT 69) (aT 70) (.val (.bool false))),
aM 72 71,
bM 73 72 true 14,
bO 74 72 true (.bin .eql (aT 73) (cI 1)),
aO 75 (.pick (aT 72) (aT 74) (.val (.bool false)))] [0, 1, 2, 3, 4, 10, 11, 12, 13, 75])
(cn 75
(sq
(rg [aM 76 0,
aM 77 1,
aM 78 2,
aM 79 4,
aO 80 (.call 177 .opn [(aT 76), (aT 77), (aT 78), (aT 79)])] [0, 1, 2, 3, 4, 10, 11, 12, 13, 80])
(cn 80
.ret
.skip))
.skip))
(sq
(sq
(rg [aM 81 1,
aK 82 .gtr 81 0,
aM 83 82,
bM 84 83 true 4,
bM 85 83 true 0,
bM 86 83 true 1,
bO 87 83 true (.bin .sub (aT 86) (cI 1)),
bO 88 83 true (.iaS 3 (aT 85) (aT 87)),
bN 89 83 true 3 88,
bM 90 83 true 0,
bM 91 83 true 13,
bO 92 83 true (.iaS 3 (aT 90) (aT 91)),
bN 93 83 true 3 92,
bO 94 83 true (.callv (aT 84) .pure [(aT 89), (aT 93)]),
bO 95 83 true (.bin .lss (aT 94) (cI 0)),
bO 96 83 true (.un .not (aT 95)),
aO 97 (.pick (aT 83) (aT 96) (.val (.bool false)))] [0, 1, 2, 3, 4, 10, 11, 12, 13, 97])
(cn 97
(sq
(rg [aM 98 0,
aM 99 1,
aM 100 2,
aM 101 13,
aM 102 4,
aO 103 (.call 178 .opn [(aT 98), (aT 99), (aT 100), (aT 101), (aT 102)]),
aM 15 103] [0, 2, 3, 4, 10, 11, 15])
(sq
(rg [aM 104 15,
aM 1 104] [0, 1, 2, 3, 4, 10, 11])
(.ext 1)))
.skip))
(sq
(rg [aM 106 0,
aM 107 1,
aM 108 2,
aM 109 13,
aM 110 4,
aO 111 (.call 179 .opn [(aT 106), (aT 107), (aT 108), (aT 109), (aT 110)]),
aM 105 111,
aE 112 0 105,
aE 113 1 105,
aM 16 112,
aM 17 113] [0, 1, 2, 3, 4, 12, 16, 17])
(sq
(rg [aM 114 17,
aM 11 114] [0, 1, 2, 3, 4, 11, 12, 16])
(sq
(rg [aM 115 16,
aM 116 1,
aB 117 .sub 115 116,
aM 118 2,
aM 119 16,
aB 120 .sub 118 119,
aM 18 117,
aM 19 120] [0, 1, 2, 3, 4, 11, 12, 16, 18, 19])
(sq
(rg [aM 121 12,
aK 122 .quo 121 8,
aM 20 122] [0, 1, 2, 3, 4, 11, 16, 18, 19, 20])
(sq
(rg [aM 123 18,
aM 124 19,
aB 125 .lss 123 124] [0, 1, 2, 3, 4, 11, 16, 18, 19, 20, 125])
(cn 125
(sq
(rg [aM 126 18,
aM 127 20,
aB 128 .geq 126 127,
aM 10 128] [0, 1, 2, 3, 4, 10, 11, 16])
(sq
(rg [aM 129 0,
aM 130 1,
aM 131 16,
aM 132 3,
aM 133 4,
aO 134 (.call 159 .opn [(aT 129), (aT 130), (aT 131), (aT 132), (aT 133)])] [0, 2, 3, 4, 10, 11, 16])
(rg [aM 135 16,
aK 136 .add 135 1,
aM 1 136] [0, 1, 2, 3, 4, 10, 11])))
(sq
(rg [aM 137 19,
aM 138 20,
aB 139 .geq 137 138,
aM 10 139] [0, 1, 2, 3, 4, 10, 11, 16])
(sq
(rg [aM 140 0,
aM 141 16,
aK 142 .add 141 1,
aM 143 2,
aM 144 3,
aM 145 4,
aO 146 (.call 159 .opn [(aT 140), (aT 142), (aT 143), (aT 144), (aT 145)])] [0, 1, 3, 4, 10, 11, 16])
(rg [aM 147 16,
aM 2 147] [0, 1, 2, 3, 4, 10, 11])))))))))))))))))))))⟩
def pf160 : PFn := ⟨8, 1, [.tmp 2], sq
(rg [aC 2 0] [0])
(sq
(.cond (.val (.bool false))
(sq
(rg [aM 3 0,
aO 4 (.conv .u32 (aT 3)),
aP 5 180 [aT 4],
aM 2 5] [2])
.ret)
.skip)
(sq
(rg [aM 6 0,
aP 7 181 [aT 6],
aM 2 7] [2])
.ret))⟩
def pf162 : PFn := ⟨47, 1, [.tmp 2], sq
(rg [aO 2 (.mv (.val (.list .nil 2 [])))] [0])
(sq
(rg [aO 3 (.nacc 179 2)] [0, 3])
(sq
(rg [aO 8 (.mkm none),
aM 4 8] [0, 3, 4])
(sq
(sq
(rg [aM 9 0,
aG 10 9,
aC 11 0] [3, 4, 9, 10, 11])
(.blk 0 (.loop (sq
(rg [aB 12 .lss 11 10] [3, 4, 9, 10, 11, 12])
(sq
(cn 12
.skip
(.ext 0))
(sq
(.blk 1 (sq
(rg [aM 13 11,
aI 14 1 9 11,
aL 15 14,
aM 5 13,
aM 6 15] [3, 4, 5, 6, 9, 10, 11])
(sq
(sq
(rg [aM 16 6,
aK 17 .lss 16 0] [3, 4, 5, 6, 9, 10, 11, 17])
(cn 17
(.ext 1)
.skip))
(sq
(sq
(rg [aM 18 6,
aM 19 5,
aB 20 .eql 18 19] [3, 4, 5, 6, 9, 10, 11, 20])
(cn 20
(sq
(rg [aM 21 4,
aM 22 6,
aM 23 3,
aG 24 23,
aZ (.mup none (aT 21) (aT 22) (aT 24))] [3, 4, 5, 6, 9, 10, 11])
(rg [aM 25 3,
aM 26 6,
aO 27 (.bld [(iP 0), (.list .nil 1 [])] [(0, 1, (aT 26))]),
aO 28 (.bsl 1 2 [(iP 0), (.list .nil 1 [])] [(0, 2, (aT 27))]),
aO 29 (.app 179 2 32 (aT 25) (aT 28)),
aM 3 29] [3, 4, 5, 6, 9, 10, 11]))
.skip))
(sq
(rg [aM 30 3,
aM 31 4,
aM 32 6,
aO 33 (.mlk none (iP 0) false (aT 31) (aT 32)),
aI 34 2 30 33,
aM 7 34] [3, 4, 5, 7, 9, 10, 11])
(rg [aM 35 7,
aM 36 7,
aO 37 (.nck (aT 36)),
aF 38 1 37,
aL 39 38,
aM 40 5,
aO 41 (.bsl 1 1 [(iP 0)] [(0, 1, (aT 40))]),
aO 42 (.app 3 1 8 (aT 39) (aT 41)),
aO 43 (.nck (aT 35)),
aF 44 1 43,
aZ (.st 1 (aT 44) (aT 42))] [3, 4, 9, 10, 11]))))))
(rg [aK 45 .add 11 1,
aM 11 45] [3, 4, 9, 10, 11])))))))
(sq
(rg [aM 46 3,
aM 2 46] [2])
.ret))))⟩
def pf163 : PFn := ⟨97, 2, [.tmp 4], sq
(rg [aO 2 (.boxp 25 (aT 0)),
aO 4 (.mv (.val (.list .nil 1 [])))] [1, 2])
(sq
(rg [aF 10 0 2,
aL 11 10,
aO 12 (.bin .mul (cI 8) (aT 11)),
aF 13 1 2,
aL 14 13,
aB 15 .mul 12 14,
aO 16 (.mks 3 1 8 [(iP 0)] (aT 15) (aT 15)),
aM 5 16] [1, 2, 5])
(sq
(sq
(rg [aM 17 5,
aG 18 17,
aC 19 0] [1, 2, 5, 18, 19])
(.blk 0 (.loop (sq
(rg [aB 20 .lss 19 18] [1, 2, 5, 18, 19, 20])
(sq
(cn 20
.skip
(.ext 0))
(sq
(.blk 1 (sq
(rg [aM 21 19,
aM 6 21] [1, 2, 5, 6, 18, 19])
(rg [aM 22 5,
aM 23 6,
aM 24 6,
aI 25 1 22 23,
aZ (.st 1 (aT 25) (aT 24))] [1, 2, 5, 18, 19])))
(rg [aK 26 .add 19 1,
aM 19 26] [1, 2, 5, 18, 19])))))))
(sq
(sq
(rg [aF 27 0 2,
aL 28 27,
aF 29 1 2,
aL 30 29,
aB 31 .mul 28 30,
aC 32 0] [1, 2, 5, 31, 32])
(.blk 2 (.loop (sq
(rg [aB 33 .lss 32 31] [1, 2, 5, 31, 32, 33])
(sq
(cn 33
.skip
(.ext 2))
(sq
(.blk 3 (sq
(rg [aM 34 32,
aM 7 34] [1, 2, 5, 7, 31, 32])
(sq
(rg [aN 35 4 2,
aM 36 5,
aM 37 7,
aO 38 (.call 182 .opn [(aT 35), (aT 36), (aT 37)])] [1, 2, 5, 7, 31, 32])
(sq
(sq
(rg [aM 39 7,
aF 40 0 2,
aL 41 40,
aB 42 .rem 39 41,
aF 43 0 2,
aL 44 43,
aK 45 .sub 44 1,
aB 46 .lss 42 45] [1, 2, 5, 7, 31, 32, 46])
(cn 46
(rg [aN 47 4 2,
aM 48 1,
aM 49 5,
aM 50 7,
aM 51 7,
aK 52 .add 51 1,
aO 53 (.call 183 .opn [(aT 47), (aT 48), (aT 49), (aT 50), (cI 0), (aT 52)])] [1, 2, 5, 7, 31, 32])
.skip))
(sq
(rg [aM 54 7,
aF 55 0 2,
aL 56 55,
aB 57 .quo 54 56,
aF 58 1 2,
aL 59 58,
aK 60 .sub 59 1,
aB 61 .lss 57 60] [1, 2, 5, 7, 31, 32, 61])
(cn 61
(rg [aN 62 4 2,
aM 63 1,
aM 64 5,
aM 65 7,
aM 66 7,
aF 67 0 2,
aL 68 67,
aB 69 .add 66 68,
aO 70 (.call 183 .opn [(aT 62), (aT 63), (aT 64), (aT 65), (cI 1), (aT 69)])] [1, 2, 5, 31, 32])
.skip))))))
(rg [aK 71 .add 32 1,
aM 32 71] [1, 2, 5, 31, 32])))))))
(sq
(rg [aM 72 5,
aG 73 72,
aO 74 (.mks 3 1 8 [(iP 0)] (aT 73) (aT 73)),
aM 8 74] [2, 5, 8])
(sq
(sq
(rg [aM 75 8,
aG 76 75,
aC 77 0] [2, 5, 8, 76, 77])
(.blk 4 (.loop (sq
(rg [aB 78 .lss 77 76] [2, 5, 8, 76, 77, 78])
(sq
(cn 78
.skip
(.ext 4))
(sq
(.blk 5 (sq
(rg [aM 79 77,
aM 9 79] [2, 5, 8, 9, 76, 77])
(sq
(rg [aM 80 8,
aM 81 9,
aI 82 1 80 81,
aZ (.st 1 (aT 82) (cI (-1)))] [2, 5, 8, 9, 76, 77])
(sq
(rg [aN 83 4 2,
aM 84 9,
aK 85 .quo 84 8,
aM 86 9,
aK 87 .rem 86 8,
aP 88 106 [aT 83, aT 85, aT 87]] [2, 5, 8, 9, 76, 77, 88])
(cn 88
(rg [aM 89 8,
aM 90 9,
aM 91 5,
aM 92 9,
aO 93 (.call 184 .opn [(aT 91), (aT 92)]),
aI 94 1 89 90,
aZ (.st 1 (aT 94) (aT 93))] [2, 5, 8, 76, 77])
.skip)))))
(rg [aK 95 .add 77 1,
aM 77 95] [2, 5, 8, 76, 77])))))))
(sq
(rg [aM 96 8,
aM 4 96] [4])
.ret))))))⟩
def pf164 : PFn := ⟨134, 4, [], sq
(rg [aU 8 true] [0, 1, 2, 3, 8])
(sq
(rg [aU 9 true] [0, 1, 2, 3, 8, 9])
(.blk 0 (.loop (.blk 1 (sq
(rg [aM 19 2,
aM 20 1,
aB 21 .sub 19 20,
aM 10 21] [0, 1, 2, 3, 8, 9, 10])
(sq
(sq
(rg [aM 22 10,
aK 23 .leq 22 12] [0, 1, 2, 3, 8, 9, 10, 23])
(cn 23
(sq
(rg [aM 24 0,
aM 25 1,
aM 26 2,
aO 27 (.call 185 .opn [(aT 24), (aT 25), (aT 26)])] [])
.ret)
.skip))
(sq
(sq
(rg [aM 28 3,
aK 29 .eql 28 0] [0, 1, 2, 3, 8, 9, 10, 29])
(cn 29
(sq
(rg [aM 30 0,
aM 31 1,
aM 32 2,
aO 33 (.call 186 .opn [(aT 30), (aT 31), (aT 32)])] [])
.ret)
.skip))
(sq
(sq
(rg [aM 34 8,
aO 35 (.un .not (aT 34))] [0, 1, 2, 3, 8, 9, 10, 35])
(cn 35
(sq
(rg [aM 36 0,
aM 37 1,
aM 38 2,
aO 39 (.call 187 .opn [(aT 36), (aT 37), (aT 38)])] [0, 1, 2, 3, 8, 9, 10])
(rg [aM 40 3,
aK 41 .sub 40 1,
aM 3 41] [0, 1, 2, 3, 8, 9, 10]))
.skip))
(sq
(rg [aM 43 0,
aM 44 1,
aM 45 2,
aP 46 188 [aT 43, aT 44, aT 45],
aM 42 46,
aE 47 0 42,
aE 48 1 42,
aM 11 47,
aM 12 48] [0, 1, 2, 3, 8, 9, 10, 11, 12])
(sq
(sq
(rg [aM 49 12,
aK 50 .eql 49 2] [0, 1, 2, 3, 8, 9, 10, 11, 12, 50])
(cn 50
(sq
(rg [aM 51 0,
aM 52 1,
aM 53 2,
aO 54 (.call 189 .opn [(aT 51), (aT 52), (aT 53)])] [0, 1, 2, 3, 8, 9, 10, 11])
(sq
(rg [aM 55 2,
aK 56 .sub 55 1,
aM 57 11,
aM 58 1,
aB 59 .sub 57 58,
aB 60 .sub 56 59,
aM 11 60] [0, 1, 2, 3, 8, 9, 10, 11])
(rg [aC 12 1] [0, 1, 2, 3, 8, 9, 10, 11, 12])))
.skip))
(sq
(sq
(rg [aM 61 8,
aM 62 61,
bM 63 62 true 9,
aO 64 (.pick (aT 62) (aT 63) (.val (.bool false))),
aM 65 64,
bM 66 65 true 12,
bO 67 65 true (.bin .eql (aT 66) (cI 1)),
aO 68 (.pick (aT 65) (aT 67) (.val (.bool false)))] [0, 1, 2, 3, 8, 9, 10, 11, 68])
(cn 68
(sq
(rg [aM 69 0,
aM 70 1,
aM 71 2,
aO 72 (.call 190 .opn [(aT 69), (aT 70), (aT 71)])] [0, 1, 2, 3, 8, 9, 10, 11, 72])
(cn 72
.ret
.skip))
.skip))
(sq
(sq
(rg [aM 73 1,
aK 74 .gtr 73 0,
aM 75 74,
bM 76 75 true 0,
bM 77 75 true 1,
bO 78 75 true (.bin .sub (aT 77) (cI 1)),
bO 79 75 true (.iaS 1 (aT 76) (aT 78)),
bL 80 75 true 79,
bM 81 75 true 0,
bM 82 75 true 11,
bO 83 75 true (.iaS 1 (aT 81) (aT 82)),
bL 84 75 true 83,
bO 85 75 true (.call 191 .pure [(aT 80), (aT 84)]),
bO 86 75 true (.un .not (aT 85)),
aO 87 (.pick (aT 75) (aT 86) (.val (.bool false)))] [0, 1, 2, 3, 8, 9, 10, 11, 87])
(cn 87
(sq
(rg [aM 88 0,
aM 89 1,
aM 90 2,
aM 91 11,
aO 92 (.call 192 .opn [(aT 88), (aT 89), (aT 90), (aT 91)]),
aM 13 92] [0, 2, 3, 8, 9, 13])
(sq
(rg [aM 93 13,
aM 1 93] [0, 1, 2, 3, 8, 9])
(.ext 1)))
.skip))
(sq
(rg [aM 95 0,
aM 96 1,
aM 97 2,
aM 98 11,
aO 99 (.call 193 .opn [(aT 95), (aT 96), (aT 97), (aT 98)]),
aM 94 99,
aE 100 0 94,
aE 101 1 94,
aM 14 100,
aM 15 101] [0, 1, 2, 3, 10, 14, 15])
(sq
(rg [aM 102 15,
aM 9 102] [0, 1, 2, 3, 9, 10, 14])
(sq
(rg [aM 103 14,
aM 104 1,
aB 105 .sub 103 104,
aM 106 2,
aM 107 14,
aB 108 .sub 106 107,
aM 16 105,
aM 17 108] [0, 1, 2, 3, 9, 10, 14, 16, 17])
(sq
(rg [aM 109 10,
aK 110 .quo 109 8,
aM 18 110] [0, 1, 2, 3, 9, 14, 16, 17, 18])
(sq
(rg [aM 111 16,
aM 112 17,
aB 113 .lss 111 112] [0, 1, 2, 3, 9, 14, 16, 17, 18, 113])
(cn 113
(sq
(rg [aM 114 16,
aM 115 18,
aB 116 .geq 114 115,
aM 8 116] [0, 1, 2, 3, 8, 9, 14])
(sq
(rg [aM 117 0,
aM 118 1,
aM 119 14,
aM 120 3,
aO 121 (.call 164 .opn [(aT 117), (aT 118), (aT 119), (aT 120)])] [0, 2, 3, 8, 9, 14])
(rg [aM 122 14,
aK 123 .add 122 1,
aM 1 123] [0, 1, 2, 3, 8, 9])))
(sq
(rg [aM 124 17,
aM 125 18,
aB 126 .geq 124 125,
aM 8 126] [0, 1, 2, 3, 8, 9, 14])
(sq
(rg [aM 127 0,
aM 128 14,
aK 129 .add 128 1,
aM 130 2,
aM 131 3,
aO 132 (.call 164 .opn [(aT 127), (aT 129), (aT 130), (aT 131)])] [0, 1, 3, 8, 9, 14])
(rg [aM 133 14,
aM 2 133] [0, 1, 2, 3, 8, 9])))))))))))))))))))))⟩
def pf167 : PFn := ⟨79, 4, [.tmp 8], sq
(rg [aO 4 (.boxp 25 (aT 0)),
aO 8 (.mv (.val (.list .nil 3 [])))] [1, 2, 3, 4])
(sq
(rg [aM 17 1,
aG 18 17,
aO 19 (.mks 200 3 32 [(.list .nil 1 []), (.bool false), (.bool false)] (aT 18) (aT 18)),
aM 9 19] [1, 2, 3, 4, 9])
(sq
(sq
(rg [aM 20 1,
aG 21 20,
aC 22 0] [2, 3, 4, 9, 20, 21, 22])
(.blk 0 (.loop (.trim (sq
(rg [aB 23 .lss 22 21] [2, 3, 4, 9, 20, 21, 22, 23])
(sq
(cn 23
.skip
(.ext 0))
(sq
(.blk 1 (sq
(rg [aM 24 22,
aI 25 4 20 22,
aN 26 4 25,
aO 11 (.zer 75 (.agg [(iP 0), (iP 0), (iP 0), (iP 0)])),
aM 10 24,
aZ (.st 4 (aT 11) (aT 26))] [2, 3, 4, 9, 10, 11, 20, 21, 22])
(sq
(rg [aN 28 4 4,
aF 29 0 11,
aL 30 29,
aF 31 1 11,
aL 32 31,
aF 33 2 11,
aL 34 33,
aO 35 (.bld [(iP 0), (iP 0), (iP 0)] [(0, 1, (aT 30)), (1, 1, (aT 32)), (2, 1, (aT 34))]),
aP 36 90 [aT 28, aT 35],
aM 27 36,
aE 37 0 27,
aE 38 1 27,
aM 12 37,
aM 13 38] [2, 3, 4, 9, 10, 11, 12, 20, 21, 22])
(sq
(.reg [aM 39 2,
aM 40 12,
aP 41 194 [aT 39, aT 40],
aF 42 3 11,
aL 43 42,
aK 44 .eql 43 1,
aM 45 44,
bF 46 45 false 3 11,
bL 47 45 false 46,
bO 48 45 false (.bin .eql (aT 47) (cI 3)),
aO 49 (.pick (aT 45) (.val (.bool true)) (aT 48)),
aO 50 (.bld [(.list .nil 1 []), (.bool false), (.bool false)] [(0, 1, (aT 41)), (2, 1, (aT 49))]),
aO 14 (.zer 200 (.agg [(.list .nil 1 []), (.bool false), (.bool false)])),
aZ (.st 3 (aT 14) (aT 50))] [(2, 12), (2, 13), (4, 12), (4, 13), (8, 12), (8, 13)] [2, 3, 4, 9, 10, 14, 20, 21, 22])
(sq
(rg [aF 51 0 14,
aL 52 51,
aG 53 52,
aK 54 .gtr 53 0,
aF 55 1 14,
aZ (.st 1 (aT 55) (aT 54))] [2, 3, 4, 9, 10, 14, 20, 21, 22])
(sq
(sq
(rg [aF 56 0 14,
aL 57 56,
aG 58 57,
aC 59 0] [2, 3, 4, 9, 10, 14, 20, 21, 22, 57, 58, 59])
(.blk 2 (.loop (sq
(rg [aB 60 .lss 59 58] [2, 3, 4, 9, 10, 14, 20, 21, 22, 57, 58, 59, 60])
(sq
(cn 60
.skip
(.ext 2))
(sq
(.blk 3 (sq
(rg [aI 61 1 57 59,
aL 62 61,
aM 16 62] [2, 3, 4, 9, 10, 14, 16, 20, 21, 22, 57, 58, 59])
(rg [aF 63 1 14,
aL 64 63,
aM 65 64,
bM 66 65 true 3,
bM 67 65 true 16,
bO 68 65 true (.call 79 .pure [(aT 66), (aT 67)]),
bO 69 65 true (.un .not (aT 68)),
aO 70 (.pick (aT 65) (aT 69) (.val (.bool false))),
aF 71 1 14,
aZ (.st 1 (aT 71) (aT 70))] [2, 3, 4, 9, 10, 14, 20, 21, 22, 57, 58, 59])))
(rg [aK 72 .add 59 1,
aM 59 72] [2, 3, 4, 9, 10, 14, 20, 21, 22, 57, 58, 59])))))))
(rg [aM 73 9,
aM 74 10,
aN 75 3 14,
aI 76 3 73 74,
aZ (.st 3 (aT 76) (aT 75))] [2, 3, 4, 9, 20, 21, 22])))))))
(rg [aK 77 .add 22 1,
aM 22 77] [2, 3, 4, 9, 20, 21, 22]))))))))
(sq
(rg [aM 78 9,
aM 8 78] [8])
.ret)))⟩
def pf168 : PFn := ⟨30, 5, [.tmp 10], sq
(rg [aU 10 false] [0, 1, 2, 3, 4])
(sq
(rg [aU 11 true] [0, 1, 2, 3, 4, 11])
(sq
(sq
(rg [aM 13 0,
aG 14 13,
aC 15 0] [0, 1, 2, 3, 4, 11, 14, 15])
(.blk 0 (.loop (sq
(rg [aB 16 .lss 15 14] [0, 1, 2, 3, 4, 11, 14, 15, 16])
(sq
(cn 16
.skip
(.ext 0))
(sq
(.blk 1 (sq
(rg [aM 17 15,
aM 12 17] [0, 1, 2, 3, 4, 11, 12, 14, 15])
(sq
(rg [aM 18 0,
aM 19 1,
aM 20 3,
aM 21 12,
aM 22 4,
aP 23 195 [aT 18, aT 19, aT 20, aT 21, aT 22]] [0, 1, 2, 3, 4, 11, 12, 14, 15, 23])
(cn 23
(sq
(sq
(rg [aM 24 2,
aM 25 12,
aI 26 1 24 25,
aL 27 26] [0, 1, 2, 3, 4, 14, 15, 27])
(cn 27
(sq
(rg [aU 10 true] [10])
.ret)
.skip))
(rg [aU 11 false] [0, 1, 2, 3, 4, 11, 14, 15]))
.skip))))
(rg [aK 28 .add 15 1,
aM 15 28] [0, 1, 2, 3, 4, 11, 14, 15])))))))
(sq
(rg [aM 29 11,
aM 10 29] [10])
.ret)))⟩
def pf170 : PFn := ⟨20, 1, [.cell 2 (some 3), .tmp 3], sq
(rg [aO 1 (.boxm 54 (aT 0)),
aO 2 (.zer 54 (.agg [(iP 0), (iP 0), (iP 0)])),
aC 3 0] [1, 2])
(sq
(rg [aF 7 1 1,
aL 8 7,
aF 9 2 1,
aL 10 9,
aP 11 158 [aT 8, aT 10],
aM 6 11,
aE 12 0 6,
aE 13 1 6,
aM 4 12,
aM 5 13] [1, 2, 4, 5])
(sq
(sq
(rg [aM 14 5,
aO 15 (.un .not (aT 14))] [1, 2, 4, 15])
(cn 15
(sq
(rg [aO 16 (.bld [(iP 0), (iP 0), (iP 0)] []),
aZ (.st 3 (aT 2) (aT 16)),
aC 3 1] [2, 3])
.ret)
.skip))
(sq
(rg [aM 17 4,
aF 18 2 1,
aZ (.st 1 (aT 18) (aT 17))] [1, 2])
(sq
(rg [aN 19 3 1,
aZ (.st 3 (aT 2) (aT 19)),
aC 3 0] [2, 3])
.ret))))⟩
def pf171 : PFn := ⟨16, 2, [.tmp 4], sq
(rg [aO 2 (.boxp 25 (aT 0)),
aU 4 false] [1, 2])
(sq
(rg [aM 5 1,
aK 6 .geq 5 0,
aM 7 6,
bM 8 7 true 1,
bF 9 7 true 0 2,
bL 10 7 true 9,
bF 11 7 true 1 2,
bL 12 7 true 11,
bO 13 7 true (.bin .mul (aT 10) (aT 12)),
bO 14 7 true (.bin .lss (aT 8) (aT 13)),
aO 15 (.pick (aT 7) (aT 14) (.val (.bool false))),
aM 4 15] [4])
.ret)⟩
def pf172 : PFn := ⟨53, 4, [], sq
(rg [aM 10 1,
aK 11 .add 10 1,
aM 8 11] [0, 1, 2, 3, 8])
(.blk 0 (.loop (sq
(sq
(rg [aM 12 8,
aM 13 2,
aB 14 .lss 12 13] [0, 1, 2, 3, 8, 14])
(cn 14
.skip
(.ext 0)))
(sq
(.blk 1 (sq
(rg [aM 17 8,
aM 9 17] [0, 1, 2, 3, 8, 9])
(.blk 2 (.loop (sq
(sq
(rg [aM 18 9,
aM 19 1,
aB 20 .gtr 18 19,
aM 21 20,
bM 22 21 true 3,
bM 23 21 true 0,
bM 24 21 true 9,
bO 25 21 true (.iaS 3 (aT 23) (aT 24)),
bN 26 21 true 3 25,
bM 27 21 true 0,
bM 28 21 true 9,
bO 29 21 true (.bin .sub (aT 28) (cI 1)),
bO 30 21 true (.iaS 3 (aT 27) (aT 29)),
bN 31 21 true 3 30,
bO 32 21 true (.callv (aT 22) .pure [(aT 26), (aT 31)]),
bO 33 21 true (.bin .lss (aT 32) (cI 0)),
aO 34 (.pick (aT 21) (aT 33) (.val (.bool false)))] [0, 1, 2, 3, 8, 9, 34])
(cn 34
.skip
(.ext 2)))
(sq
(.blk 3 (rg [aM 37 0,
aM 38 9,
aM 39 0,
aM 40 9,
aK 41 .sub 40 1,
aM 42 0,
aM 43 9,
aK 44 .sub 43 1,
aI 45 3 42 44,
aN 46 3 45,
aM 47 0,
aM 48 9,
aI 49 3 47 48,
aN 50 3 49,
aI 51 3 37 38,
aZ (.st 3 (aT 51) (aT 46)),
aI 52 3 39 41,
aZ (.st 3 (aT 52) (aT 50))] [0, 1, 2, 3, 8, 9]))
(rg [aM 35 9,
aK 36 .sub 35 1,
aM 9 36] [0, 1, 2, 3, 8, 9])))))))
(rg [aM 15 8,
aK 16 .add 15 1,
aM 8 16] [0, 1, 2, 3, 8])))))⟩
def pf173 : PFn := ⟨60, 4, [], sq
(rg [aM 13 1,
aM 8 13] [0, 1, 2, 3, 8])
(sq
(rg [aC 9 0] [0, 1, 2, 3, 8, 9])
(sq
(rg [aM 14 2,
aM 15 1,
aB 16 .sub 14 15,
aM 10 16] [0, 3, 8, 9, 10])
(sq
(sq
(rg [aM 17 10,
aK 18 .sub 17 1,
aK 19 .quo 18 2,
aM 11 19] [0, 3, 8, 9, 10, 11])
(.blk 0 (.loop (sq
(sq
(rg [aM 20 11,
aK 21 .geq 20 0] [0, 3, 8, 9, 10, 11, 21])
(cn 21
.skip
(.ext 0)))
(sq
(.blk 1 (rg [aM 24 0,
aM 25 11,
aM 26 10,
aM 27 8,
aM 28 3,
aO 29 (.call 197 .opn [(aT 24), (aT 25), (aT 26), (aT 27), (aT 28)])] [0, 3, 8, 9, 10, 11]))
(rg [aM 22 11,
aK 23 .sub 22 1,
aM 11 23] [0, 3, 8, 9, 10, 11]))))))
(sq
(rg [aM 30 10,
aK 31 .sub 30 1,
aM 12 31] [0, 3, 8, 9, 12])
(.blk 2 (.loop (sq
(sq
(rg [aM 32 12,
aK 33 .geq 32 0] [0, 3, 8, 9, 12, 33])
(cn 33
.skip
(.ext 2)))
(sq
(.blk 3 (sq
(rg [aM 36 0,
aM 37 8,
aM 38 0,
aM 39 8,
aM 40 12,
aB 41 .add 39 40,
aM 42 0,
aM 43 8,
aM 44 12,
aB 45 .add 43 44,
aI 46 3 42 45,
aN 47 3 46,
aM 48 0,
aM 49 8,
aI 50 3 48 49,
aN 51 3 50,
aI 52 3 36 37,
aZ (.st 3 (aT 52) (aT 47)),
aI 53 3 38 41,
aZ (.st 3 (aT 53) (aT 51))] [0, 3, 8, 9, 12])
(rg [aM 54 0,
aM 55 9,
aM 56 12,
aM 57 8,
aM 58 3,
aO 59 (.call 197 .opn [(aT 54), (aT 55), (aT 56), (aT 57), (aT 58)])] [0, 3, 8, 9, 12])))
(rg [aM 34 12,
aK 35 .sub 34 1,
aM 12 35] [0, 3, 8, 9, 12])))))))))⟩
def pf174 : PFn := ⟨67, 4, [], sq
(rg [aM 13 2,
aM 14 1,
aB 15 .sub 13 14,
aM 8 15] [0, 1, 8])
(sq
(rg [aM 16 8,
aK 17 .geq 16 8] [0, 1, 8, 17])
(cn 17
(sq
(rg [aM 18 8,
aO 19 (.conv .u64 (aT 18)),
aO 9 (.zer 227 (.int .u64 0)),
aZ (.st 1 (aT 9) (aT 19))] [0, 1, 8, 9])
(sq
(rg [aM 20 8,
aP 21 198 [aT 20],
aM 10 21] [0, 1, 8, 9, 10])
(sq
(rg [aM 22 1,
aM 23 8,
aK 24 .quo 23 4,
aK 25 .mul 24 2,
aB 26 .add 22 25,
aK 27 .sub 26 1,
aM 11 27] [0, 1, 8, 9, 10, 11])
(.blk 0 (.loop (sq
(sq
(rg [aM 28 11,
aM 29 1,
aM 30 8,
aK 31 .quo 30 4,
aK 32 .mul 31 2,
aB 33 .add 29 32,
aK 34 .add 33 1,
aB 35 .leq 28 34] [0, 1, 8, 9, 10, 11, 35])
(cn 35
.skip
(.ext 0)))
(sq
(.blk 1 (sq
(rg [aO 38 (.call 199 .opn [(aT 9)]),
aM 39 10,
aO 40 (.bin .sub (aT 39) (.val (.int .u64 1))),
aB 41 .and 38 40,
aO 42 (.conv .i64 (aT 41)),
aM 12 42] [0, 1, 8, 9, 10, 11, 12])
(sq
(sq
(rg [aM 43 12,
aM 44 8,
aB 45 .geq 43 44] [0, 1, 8, 9, 10, 11, 12, 45])
(cn 45
(rg [aM 46 12,
aM 47 8,
aB 48 .sub 46 47,
aM 12 48] [0, 1, 8, 9, 10, 11, 12])
.skip))
(rg [aM 49 0,
aM 50 11,
aM 51 0,
aM 52 1,
aM 53 12,
aB 54 .add 52 53,
aM 55 0,
aM 56 1,
aM 57 12,
aB 58 .add 56 57,
aI 59 3 55 58,
aN 60 3 59,
aM 61 0,
aM 62 11,
aI 63 3 61 62,
aN 64 3 63,
aI 65 3 49 50,
aZ (.st 3 (aT 65) (aT 60)),
aI 66 3 51 54,
aZ (.st 3 (aT 66) (aT 64))] [0, 1, 8, 9, 10, 11]))))
(rg [aM 36 11,
aK 37 .add 36 1,
aM 11 37] [0, 1, 8, 9, 10, 11]))))))))
.skip))⟩
def pf175 : PFn := ⟨63, 4, [.tmp 8, .tmp 9], sq
(rg [aC 8 0,
aC 9 0] [0, 1, 2, 3])
(sq
(rg [aM 15 2,
aM 16 1,
aB 17 .sub 15 16,
aM 10 17] [0, 1, 3, 10])
(sq
(rg [aO 11 (.zer 3 (iP 0))] [0, 1, 3, 10, 11])
(sq
(rg [aM 18 1,
aM 19 10,
aK 20 .quo 19 4,
aK 21 .mul 20 1,
aB 22 .add 18 21,
aM 12 22] [0, 1, 3, 10, 11, 12])
(sq
(rg [aM 23 1,
aM 24 10,
aK 25 .quo 24 4,
aK 26 .mul 25 2,
aB 27 .add 23 26,
aM 13 27] [0, 1, 3, 10, 11, 12, 13])
(sq
(rg [aM 28 1,
aM 29 10,
aK 30 .quo 29 4,
aK 31 .mul 30 3,
aB 32 .add 28 31,
aM 14 32] [0, 3, 10, 11, 12, 13, 14])
(sq
(sq
(rg [aM 33 10,
aK 34 .geq 33 8] [0, 3, 10, 11, 12, 13, 14, 34])
(cn 34
(sq
(sq
(rg [aM 35 10,
aK 36 .geq 35 50] [0, 3, 11, 12, 13, 14, 36])
(cn 36
(sq
(rg [aM 37 0,
aM 38 12,
aM 39 3,
aP 40 200 [aT 37, aT 38, aT 11, aT 39],
aM 12 40] [0, 3, 11, 12, 13, 14])
(sq
(rg [aM 41 0,
aM 42 13,
aM 43 3,
aP 44 200 [aT 41, aT 42, aT 11, aT 43],
aM 13 44] [0, 3, 11, 12, 13, 14])
(rg [aM 45 0,
aM 46 14,
aM 47 3,
aP 48 200 [aT 45, aT 46, aT 11, aT 47],
aM 14 48] [0, 3, 11, 12, 13, 14])))
.skip))
(rg [aM 49 0,
aM 50 12,
aM 51 13,
aM 52 14,
aM 53 3,
aP 54 201 [aT 49, aT 50, aT 51, aT 52, aT 11, aT 53],
aM 13 54] [11, 13]))
.skip))
(sq
(rg [aL 55 11] [13, 55])
(.blk 0 (sq
(rg [aK 58 .eql 55 0,
aM 57 58] [13, 55, 57])
(cn 57
(sq
(rg [aM 59 13,
aM 8 59,
aC 9 1] [8, 9])
.ret)
(sq
(rg [aK 61 .eql 55 12,
aM 60 61] [13, 60])
(cn 60
(sq
(rg [aM 62 13,
aM 8 62,
aC 9 2] [8, 9])
.ret)
(sq
(rg [aM 56 13,
aM 8 56,
aC 9 0] [8, 9])
.ret)))))))))))))⟩
def pf176 : PFn := ⟨34, 4, [], sq
(rg [aM 10 1,
aM 8 10] [0, 2, 8])
(sq
(rg [aM 11 2,
aK 12 .sub 11 1,
aM 9 12] [0, 8, 9])
(.blk 0 (.loop (sq
(sq
(rg [aM 13 8,
aM 14 9,
aB 15 .lss 13 14] [0, 8, 9, 15])
(cn 15
.skip
(.ext 0)))
(.blk 1 (sq
(rg [aM 16 0,
aM 17 8,
aM 18 0,
aM 19 9,
aM 20 0,
aM 21 9,
aI 22 3 20 21,
aN 23 3 22,
aM 24 0,
aM 25 8,
aI 26 3 24 25,
aN 27 3 26,
aI 28 3 16 17,
aZ (.st 3 (aT 28) (aT 23)),
aI 29 3 18 19,
aZ (.st 3 (aT 29) (aT 27))] [0, 8, 9])
(sq
(rg [aM 30 8,
aK 31 .add 30 1,
aM 8 31] [0, 8, 9])
(rg [aM 32 9,
aK 33 .sub 32 1,
aM 9 33] [0, 8, 9]))))))))⟩
def pf177 : PFn := ⟨141, 4, [.tmp 8], sq
(rg [aU 8 false] [0, 1, 2, 3])
(sq
(rg [aM 13 1,
aK 14 .add 13 1,
aM 9 14] [0, 1, 2, 3, 9])
(sq
(sq
(rg [aC 10 0] [0, 1, 2, 3, 9, 10])
(.blk 0 (.loop (sq
(sq
(rg [aM 15 10,
aK 16 .lss 15 5] [0, 1, 2, 3, 9, 10, 16])
(cn 16
.skip
(.ext 0)))
(sq
(.blk 1 (sq
(.blk 2 (.loop (sq
(sq
(rg [aM 19 9,
aM 20 2,
aB 21 .lss 19 20,
aM 22 21,
bM 23 22 true 3,
bM 24 22 true 0,
bM 25 22 true 9,
bO 26 22 true (.iaS 3 (aT 24) (aT 25)),
bN 27 22 true 3 26,
bM 28 22 true 0,
bM 29 22 true 9,
bO 30 22 true (.bin .sub (aT 29) (cI 1)),
bO 31 22 true (.iaS 3 (aT 28) (aT 30)),
bN 32 22 true 3 31,
bO 33 22 true (.callv (aT 23) .pure [(aT 27), (aT 32)]),
bO 34 22 true (.bin .lss (aT 33) (cI 0)),
bO 35 22 true (.un .not (aT 34)),
aO 36 (.pick (aT 22) (aT 35) (.val (.bool false)))] [0, 1, 2, 3, 9, 10, 36])
(cn 36
.skip
(.ext 2)))
(.blk 3 (rg [aM 37 9,
aK 38 .add 37 1,
aM 9 38] [0, 1, 2, 3, 9, 10])))))
(sq
(sq
(rg [aM 39 9,
aM 40 2,
aB 41 .eql 39 40] [0, 1, 2, 3, 9, 10, 41])
(cn 41
(sq
(rg [aU 8 true] [8])
.ret)
.skip))
(sq
(sq
(rg [aM 42 2,
aM 43 1,
aB 44 .sub 42 43,
aK 45 .lss 44 50] [0, 1, 2, 3, 9, 10, 45])
(cn 45
(sq
(rg [aU 8 false] [8])
.ret)
.skip))
(sq
(rg [aM 46 0,
aM 47 9,
aM 48 0,
aM 49 9,
aK 50 .sub 49 1,
aM 51 0,
aM 52 9,
aK 53 .sub 52 1,
aI 54 3 51 53,
aN 55 3 54,
aM 56 0,
aM 57 9,
aI 58 3 56 57,
aN 59 3 58,
aI 60 3 46 47,
aZ (.st 3 (aT 60) (aT 55)),
aI 61 3 48 50,
aZ (.st 3 (aT 61) (aT 59))] [0, 1, 2, 3, 9, 10])
(sq
(sq
(rg [aM 62 9,
aM 63 1,
aB 64 .sub 62 63,
aK 65 .geq 64 2] [0, 1, 2, 3, 9, 10, 65])
(cn 65
(sq
(rg [aM 66 9,
aK 67 .sub 66 1,
aM 11 67] [0, 1, 2, 3, 9, 10, 11])
(.blk 4 (.loop (sq
(sq
(rg [aM 68 11,
aK 69 .geq 68 1] [0, 1, 2, 3, 9, 10, 11, 69])
(cn 69
.skip
(.ext 4)))
(sq
(.blk 5 (sq
(sq
(rg [aM 72 3,
aM 73 0,
aM 74 11,
aI 75 3 73 74,
aN 76 3 75,
aM 77 0,
aM 78 11,
aK 79 .sub 78 1,
aI 80 3 77 79,
aN 81 3 80,
aO 82 (.callv (aT 72) .pure [(aT 76), (aT 81)]),
aK 83 .lss 82 0,
aO 84 (.un .not (aT 83))] [0, 1, 2, 3, 9, 10, 11, 84])
(cn 84
(.ext 4)
.skip))
(rg [aM 85 0,
aM 86 11,
aM 87 0,
aM 88 11,
aK 89 .sub 88 1,
aM 90 0,
aM 91 11,
aK 92 .sub 91 1,
aI 93 3 90 92,
aN 94 3 93,
aM 95 0,
aM 96 11,
aI 97 3 95 96,
aN 98 3 97,
aI 99 3 85 86,
aZ (.st 3 (aT 99) (aT 94)),
aI 100 3 87 89,
aZ (.st 3 (aT 100) (aT 98))] [0, 1, 2, 3, 9, 10, 11])))
(rg [aM 70 11,
aK 71 .sub 70 1,
aM 11 71] [0, 1, 2, 3, 9, 10, 11]))))))
.skip))
(sq
(rg [aM 101 2,
aM 102 9,
aB 103 .sub 101 102,
aK 104 .geq 103 2] [0, 1, 2, 3, 9, 10, 104])
(cn 104
(sq
(rg [aM 105 9,
aK 106 .add 105 1,
aM 12 106] [0, 1, 2, 3, 9, 10, 12])
(.blk 6 (.loop (sq
(sq
(rg [aM 107 12,
aM 108 2,
aB 109 .lss 107 108] [0, 1, 2, 3, 9, 10, 12, 109])
(cn 109
.skip
(.ext 6)))
(sq
(.blk 7 (sq
(sq
(rg [aM 112 3,
aM 113 0,
aM 114 12,
aI 115 3 113 114,
aN 116 3 115,
aM 117 0,
aM 118 12,
aK 119 .sub 118 1,
aI 120 3 117 119,
aN 121 3 120,
aO 122 (.callv (aT 112) .pure [(aT 116), (aT 121)]),
aK 123 .lss 122 0,
aO 124 (.un .not (aT 123))] [0, 1, 2, 3, 9, 10, 12, 124])
(cn 124
(.ext 6)
.skip))
(rg [aM 125 0,
aM 126 12,
aM 127 0,
aM 128 12,
aK 129 .sub 128 1,
aM 130 0,
aM 131 12,
aK 132 .sub 131 1,
aI 133 3 130 132,
aN 134 3 133,
aM 135 0,
aM 136 12,
aI 137 3 135 136,
aN 138 3 137,
aI 139 3 125 126,
aZ (.st 3 (aT 139) (aT 134)),
aI 140 3 127 129,
aZ (.st 3 (aT 140) (aT 138))] [0, 1, 2, 3, 9, 10, 12])))
(rg [aM 110 12,
aK 111 .add 110 1,
aM 12 111] [0, 1, 2, 3, 9, 10, 12]))))))
.skip))))))))
(rg [aM 17 10,
aK 18 .add 17 1,
aM 10 18] [0, 1, 2, 3, 9, 10]))))))
(sq
(rg [aU 8 false] [8])
.ret)))⟩
def pf178 : PFn := ⟨90, 5, [.tmp 10], sq
(rg [aC 10 0] [0, 1, 2, 3, 4])
(sq
(rg [aM 13 0,
aM 14 1,
aM 15 0,
aM 16 3,
aM 17 0,
aM 18 3,
aI 19 3 17 18,
aN 20 3 19,
aM 21 0,
aM 22 1,
aI 23 3 21 22,
aN 24 3 23,
aI 25 3 13 14,
aZ (.st 3 (aT 25) (aT 20)),
aI 26 3 15 16,
aZ (.st 3 (aT 26) (aT 24))] [0, 1, 2, 4])
(sq
(rg [aM 27 1,
aK 28 .add 27 1,
aM 29 2,
aK 30 .sub 29 1,
aM 11 28,
aM 12 30] [0, 1, 4, 11, 12])
(sq
(.blk 0 (.loop (.blk 1 (sq
(.blk 2 (.loop (sq
(sq
(rg [aM 31 11,
aM 32 12,
aB 33 .leq 31 32,
aM 34 33,
bM 35 34 true 4,
bM 36 34 true 0,
bM 37 34 true 1,
bO 38 34 true (.iaS 3 (aT 36) (aT 37)),
bN 39 34 true 3 38,
bM 40 34 true 0,
bM 41 34 true 11,
bO 42 34 true (.iaS 3 (aT 40) (aT 41)),
bN 43 34 true 3 42,
bO 44 34 true (.callv (aT 35) .pure [(aT 39), (aT 43)]),
bO 45 34 true (.bin .lss (aT 44) (cI 0)),
bO 46 34 true (.un .not (aT 45)),
aO 47 (.pick (aT 34) (aT 46) (.val (.bool false)))] [0, 1, 4, 11, 12, 47])
(cn 47
.skip
(.ext 2)))
(.blk 3 (rg [aM 48 11,
aK 49 .add 48 1,
aM 11 49] [0, 1, 4, 11, 12])))))
(sq
(.blk 4 (.loop (sq
(sq
(rg [aM 50 11,
aM 51 12,
aB 52 .leq 50 51,
aM 53 52,
bM 54 53 true 4,
bM 55 53 true 0,
bM 56 53 true 1,
bO 57 53 true (.iaS 3 (aT 55) (aT 56)),
bN 58 53 true 3 57,
bM 59 53 true 0,
bM 60 53 true 12,
bO 61 53 true (.iaS 3 (aT 59) (aT 60)),
bN 62 53 true 3 61,
bO 63 53 true (.callv (aT 54) .pure [(aT 58), (aT 62)]),
bO 64 53 true (.bin .lss (aT 63) (cI 0)),
aO 65 (.pick (aT 53) (aT 64) (.val (.bool false)))] [0, 1, 4, 11, 12, 65])
(cn 65
.skip
(.ext 4)))
(.blk 5 (rg [aM 66 12,
aK 67 .sub 66 1,
aM 12 67] [0, 1, 4, 11, 12])))))
(sq
(sq
(rg [aM 68 11,
aM 69 12,
aB 70 .gtr 68 69] [0, 1, 4, 11, 12, 70])
(cn 70
(.ext 0)
.skip))
(sq
(rg [aM 71 0,
aM 72 11,
aM 73 0,
aM 74 12,
aM 75 0,
aM 76 12,
aI 77 3 75 76,
aN 78 3 77,
aM 79 0,
aM 80 11,
aI 81 3 79 80,
aN 82 3 81,
aI 83 3 71 72,
aZ (.st 3 (aT 83) (aT 78)),
aI 84 3 73 74,
aZ (.st 3 (aT 84) (aT 82))] [0, 1, 4, 11, 12])
(sq
(rg [aM 85 11,
aK 86 .add 85 1,
aM 11 86] [0, 1, 4, 11, 12])
(rg [aM 87 12,
aK 88 .sub 87 1,
aM 12 88] [0, 1, 4, 11, 12])))))))))
(sq
(rg [aM 89 11,
aM 10 89] [10])
.ret))))⟩
def pf179 : PFn := ⟨178, 5, [.tmp 10, .tmp 11], sq
(rg [aC 10 0,
aU 11 false] [0, 1, 2, 3, 4])
(sq
(rg [aM 14 0,
aM 15 1,
aM 16 0,
aM 17 3,
aM 18 0,
aM 19 3,
aI 20 3 18 19,
aN 21 3 20,
aM 22 0,
aM 23 1,
aI 24 3 22 23,
aN 25 3 24,
aI 26 3 14 15,
aZ (.st 3 (aT 26) (aT 21)),
aI 27 3 16 17,
aZ (.st 3 (aT 27) (aT 25))] [0, 1, 2, 4])
(sq
(rg [aM 28 1,
aK 29 .add 28 1,
aM 30 2,
aK 31 .sub 30 1,
aM 12 29,
aM 13 31] [0, 1, 4, 12, 13])
(sq
(.blk 0 (.loop (sq
(sq
(rg [aM 32 12,
aM 33 13,
aB 34 .leq 32 33,
aM 35 34,
bM 36 35 true 4,
bM 37 35 true 0,
bM 38 35 true 12,
bO 39 35 true (.iaS 3 (aT 37) (aT 38)),
bN 40 35 true 3 39,
bM 41 35 true 0,
bM 42 35 true 1,
bO 43 35 true (.iaS 3 (aT 41) (aT 42)),
bN 44 35 true 3 43,
bO 45 35 true (.callv (aT 36) .pure [(aT 40), (aT 44)]),
bO 46 35 true (.bin .lss (aT 45) (cI 0)),
aO 47 (.pick (aT 35) (aT 46) (.val (.bool false)))] [0, 1, 4, 12, 13, 47])
(cn 47
.skip
(.ext 0)))
(.blk 1 (rg [aM 48 12,
aK 49 .add 48 1,
aM 12 49] [0, 1, 4, 12, 13])))))
(sq
(.blk 2 (.loop (sq
(sq
(rg [aM 50 12,
aM 51 13,
aB 52 .leq 50 51,
aM 53 52,
bM 54 53 true 4,
bM 55 53 true 0,
bM 56 53 true 13,
bO 57 53 true (.iaS 3 (aT 55) (aT 56)),
bN 58 53 true 3 57,
bM 59 53 true 0,
bM 60 53 true 1,
bO 61 53 true (.iaS 3 (aT 59) (aT 60)),
bN 62 53 true 3 61,
bO 63 53 true (.callv (aT 54) .pure [(aT 58), (aT 62)]),
bO 64 53 true (.bin .lss (aT 63) (cI 0)),
bO 65 53 true (.un .not (aT 64)),
aO 66 (.pick (aT 53) (aT 65) (.val (.bool false)))] [0, 1, 4, 12, 13, 66])
(cn 66
.skip
(.ext 2)))
(.blk 3 (rg [aM 67 13,
aK 68 .sub 67 1,
aM 13 68] [0, 1, 4, 12, 13])))))
(sq
(sq
(rg [aM 69 12,
aM 70 13,
aB 71 .gtr 69 70] [0, 1, 4, 12, 13, 71])
(cn 71
(sq
(rg [aM 72 0,
aM 73 13,
aM 74 0,
aM 75 1,
aM 76 0,
aM 77 1,
aI 78 3 76 77,
aN 79 3 78,
aM 80 0,
aM 81 13,
aI 82 3 80 81,
aN 83 3 82,
aI 84 3 72 73,
aZ (.st 3 (aT 84) (aT 79)),
aI 85 3 74 75,
aZ (.st 3 (aT 85) (aT 83))] [13])
(sq
(rg [aM 86 13,
aM 10 86,
aU 11 true] [10, 11])
.ret))
.skip))
(sq
(rg [aM 87 0,
aM 88 12,
aM 89 0,
aM 90 13,
aM 91 0,
aM 92 13,
aI 93 3 91 92,
aN 94 3 93,
aM 95 0,
aM 96 12,
aI 97 3 95 96,
aN 98 3 97,
aI 99 3 87 88,
aZ (.st 3 (aT 99) (aT 94)),
aI 100 3 89 90,
aZ (.st 3 (aT 100) (aT 98))] [0, 1, 4, 12, 13])
(sq
(rg [aM 101 12,
aK 102 .add 101 1,
aM 12 102] [0, 1, 4, 12, 13])
(sq
(rg [aM 103 13,
aK 104 .sub 103 1,
aM 13 104] [0, 1, 4, 12, 13])
(sq
(.blk 4 (.loop (.blk 5 (sq
(.blk 6 (.loop (sq
(sq
(rg [aM 105 12,
aM 106 13,
aB 107 .leq 105 106,
aM 108 107,
bM 109 108 true 4,
bM 110 108 true 0,
bM 111 108 true 12,
bO 112 108 true (.iaS 3 (aT 110) (aT 111)),
bN 113 108 true 3 112,
bM 114 108 true 0,
bM 115 108 true 1,
bO 116 108 true (.iaS 3 (aT 114) (aT 115)),
bN 117 108 true 3 116,
bO 118 108 true (.callv (aT 109) .pure [(aT 113), (aT 117)]),
bO 119 108 true (.bin .lss (aT 118) (cI 0)),
aO 120 (.pick (aT 108) (aT 119) (.val (.bool false)))] [0, 1, 4, 12, 13, 120])
(cn 120
.skip
(.ext 6)))
(.blk 7 (rg [aM 121 12,
aK 122 .add 121 1,
aM 12 122] [0, 1, 4, 12, 13])))))
(sq
(.blk 8 (.loop (sq
(sq
(rg [aM 123 12,
aM 124 13,
aB 125 .leq 123 124,
aM 126 125,
bM 127 126 true 4,
bM 128 126 true 0,
bM 129 126 true 13,
bO 130 126 true (.iaS 3 (aT 128) (aT 129)),
bN 131 126 true 3 130,
bM 132 126 true 0,
bM 133 126 true 1,
bO 134 126 true (.iaS 3 (aT 132) (aT 133)),
bN 135 126 true 3 134,
bO 136 126 true (.callv (aT 127) .pure [(aT 131), (aT 135)]),
bO 137 126 true (.bin .lss (aT 136) (cI 0)),
bO 138 126 true (.un .not (aT 137)),
aO 139 (.pick (aT 126) (aT 138) (.val (.bool false)))] [0, 1, 4, 12, 13, 139])
(cn 139
.skip
(.ext 8)))
(.blk 9 (rg [aM 140 13,
aK 141 .sub 140 1,
aM 13 141] [0, 1, 4, 12, 13])))))
(sq
(sq
(rg [aM 142 12,
aM 143 13,
aB 144 .gtr 142 143] [0, 1, 4, 12, 13, 144])
(cn 144
(.ext 4)
.skip))
(sq
(rg [aM 145 0,
aM 146 12,
aM 147 0,
aM 148 13,
aM 149 0,
aM 150 13,
aI 151 3 149 150,
aN 152 3 151,
aM 153 0,
aM 154 12,
aI 155 3 153 154,
aN 156 3 155,
aI 157 3 145 146,
aZ (.st 3 (aT 157) (aT 152)),
aI 158 3 147 148,
aZ (.st 3 (aT 158) (aT 156))] [0, 1, 4, 12, 13])
(sq
(rg [aM 159 12,
aK 160 .add 159 1,
aM 12 160] [0, 1, 4, 12, 13])
(rg [aM 161 13,
aK 162 .sub 161 1,
aM 13 162] [0, 1, 4, 12, 13])))))))))
(sq
(rg [aM 163 0,
aM 164 13,
aM 165 0,
aM 166 1,
aM 167 0,
aM 168 1,
aI 169 3 167 168,
aN 170 3 169,
aM 171 0,
aM 172 13,
aI 173 3 171 172,
aN 174 3 173,
aI 175 3 163 164,
aZ (.st 3 (aT 175) (aT 170)),
aI 176 3 165 166,
aZ (.st 3 (aT 176) (aT 174))] [13])
(sq
(rg [aM 177 13,
aM 10 177,
aU 11 false] [10, 11])
.ret)))))))))))⟩
def pf182 : PFn := ⟨41, 3, [], sq
(rg [aO 3 (.boxp 25 (aT 0))] [1, 2, 3])
(sq
(rg [aC 8 0] [1, 2, 3, 8])
(.blk 0 (.loop (sq
(rg [aK 9 .lss 8 6] [1, 2, 3, 8, 9])
(sq
(cn 9
.skip
(.ext 0))
(sq
(.blk 1 (sq
(rg [aM 10 8,
aM 6 10] [1, 2, 3, 6, 8])
(sq
(rg [aM 11 6,
aC 12 0] [1, 2, 3, 6, 8, 11, 12])
(.blk 2 (.loop (sq
(rg [aB 13 .lss 12 11] [1, 2, 3, 6, 8, 11, 12, 13])
(sq
(cn 13
.skip
(.ext 2))
(sq
(.blk 3 (sq
(rg [aM 14 12,
aM 7 14] [1, 2, 3, 6, 7, 8, 11, 12])
(sq
(rg [aN 15 4 3,
aM 16 2,
aM 17 6,
aP 18 106 [aT 15, aT 16, aT 17],
aM 19 18,
bN 20 19 true 4 3,
bM 21 19 true 2,
bM 22 19 true 7,
bO 23 19 true (.call 106 .pure [(aT 20), (aT 21), (aT 22)]),
aO 24 (.pick (aT 19) (aT 23) (.val (.bool false))),
aM 25 24,
bM 26 25 true 6,
bM 27 25 true 7,
bO 28 25 true (.call 202 .pure [(aT 26), (aT 27)]),
bO 29 25 true (.un .not (aT 28)),
aO 30 (.pick (aT 25) (aT 29) (.val (.bool false)))] [1, 2, 3, 6, 7, 8, 11, 12, 30])
(cn 30
(rg [aM 31 1,
aM 32 2,
aM 33 6,
aP 34 204 [aT 32, aT 33],
aM 35 2,
aM 36 7,
aP 37 204 [aT 35, aT 36],
aO 38 (.call 203 .opn [(aT 31), (aT 34), (aT 37)])] [1, 2, 3, 6, 8, 11, 12])
.skip))))
(rg [aK 39 .add 12 1,
aM 12 39] [1, 2, 3, 6, 8, 11, 12])))))))))
(rg [aK 40 .add 8 1,
aM 8 40] [1, 2, 3, 8])))))))⟩
def pf183 : PFn := ⟨72, 6, [], sq
(rg [aO 6 (.boxp 25 (aT 0))] [1, 2, 3, 4, 5, 6])
(sq
(rg [aM 15 1,
aO 16 (.mkf (.func 205) [(aT 15)] []),
aM 12 16] [2, 3, 4, 5, 6, 12])
(sq
(rg [aC 17 0] [2, 3, 4, 5, 6, 12, 17])
(.blk 0 (.loop (sq
(rg [aK 18 .lss 17 6] [2, 3, 4, 5, 6, 12, 17, 18])
(sq
(cn 18
.skip
(.ext 0))
(sq
(.blk 1 (sq
(rg [aM 19 17,
aM 13 19] [2, 3, 4, 5, 6, 12, 13, 17])
(sq
(sq
(rg [aN 20 4 6,
aM 21 3,
aM 22 13,
aP 23 106 [aT 20, aT 21, aT 22],
aO 24 (.un .not (aT 23)),
aM 25 24,
bM 26 25 false 13,
bM 27 25 false 4,
bO 28 25 false (.call 107 .pure [(aT 26), (aT 27)]),
bO 29 25 false (.un .not (aT 28)),
aO 30 (.pick (aT 25) (.val (.bool true)) (aT 29)),
aM 31 30,
bM 32 31 false 12,
bM 33 31 false 3,
bM 34 31 false 13,
bM 35 31 false 4,
bO 36 31 false (.callv (aT 32) .pure [(aT 33), (aT 34), (aT 35)]),
aO 37 (.pick (aT 31) (.val (.bool true)) (aT 36))] [2, 3, 4, 5, 6, 12, 13, 17, 37])
(cn 37
(.ext 1)
.skip))
(sq
(rg [aC 38 0] [2, 3, 4, 5, 6, 12, 13, 17, 38])
(.blk 2 (.loop (sq
(rg [aK 39 .lss 38 6] [2, 3, 4, 5, 6, 12, 13, 17, 38, 39])
(sq
(cn 39
.skip
(.ext 2))
(sq
(.blk 3 (sq
(rg [aM 40 38,
aM 14 40] [2, 3, 4, 5, 6, 12, 13, 14, 17, 38])
(sq
(rg [aN 41 4 6,
aM 42 5,
aM 43 14,
aP 44 106 [aT 41, aT 42, aT 43],
aM 45 44,
bM 46 45 true 14,
bM 47 45 true 4,
bO 48 45 true (.bin .add (aT 47) (cI 2)),
bO 49 45 true (.bin .rem (aT 48) (cI 4)),
bO 50 45 true (.call 107 .pure [(aT 46), (aT 49)]),
aO 51 (.pick (aT 45) (aT 50) (.val (.bool false))),
aM 52 51,
bM 53 52 true 12,
bM 54 52 true 5,
bM 55 52 true 14,
bM 56 52 true 4,
bO 57 52 true (.bin .add (aT 56) (cI 2)),
bO 58 52 true (.bin .rem (aT 57) (cI 4)),
bO 59 52 true (.callv (aT 53) .pure [(aT 54), (aT 55), (aT 58)]),
bO 60 52 true (.un .not (aT 59)),
aO 61 (.pick (aT 52) (aT 60) (.val (.bool false)))] [2, 3, 4, 5, 6, 12, 13, 14, 17, 38, 61])
(cn 61
(rg [aM 62 2,
aM 63 3,
aM 64 13,
aP 65 204 [aT 63, aT 64],
aM 66 5,
aM 67 14,
aP 68 204 [aT 66, aT 67],
aO 69 (.call 203 .opn [(aT 62), (aT 65), (aT 68)])] [2, 3, 4, 5, 6, 12, 13, 17, 38])
.skip))))
(rg [aK 70 .add 38 1,
aM 38 70] [2, 3, 4, 5, 6, 12, 13, 17, 38]))))))))))
(rg [aK 71 .add 17 1,
aM 17 71] [2, 3, 4, 5, 6, 12, 17]))))))))⟩
def pf184 : PFn := ⟨24, 2, [.tmp 4], sq
(rg [aC 4 0] [0, 1])
(sq
(sq
(rg [aM 5 0,
aM 6 1,
aI 7 1 5 6,
aL 8 7,
aM 9 1,
aB 10 .neq 8 9] [0, 1, 10])
(cn 10
(rg [aM 11 0,
aM 12 1,
aM 13 0,
aM 14 0,
aM 15 1,
aI 16 1 14 15,
aL 17 16,
aO 18 (.call 184 .opn [(aT 13), (aT 17)]),
aI 19 1 11 12,
aZ (.st 1 (aT 19) (aT 18))] [0, 1])
.skip))
(sq
(rg [aM 20 0,
aM 21 1,
aI 22 1 20 21,
aL 23 22,
aM 4 23] [4])
.ret))⟩
def pf185 : PFn := ⟨49, 3, [], sq
(rg [aM 8 1,
aK 9 .add 8 1,
aM 6 9] [0, 1, 2, 6])
(.blk 0 (.loop (sq
(sq
(rg [aM 10 6,
aM 11 2,
aB 12 .lss 10 11] [0, 1, 2, 6, 12])
(cn 12
.skip
(.ext 0)))
(sq
(.blk 1 (sq
(rg [aM 15 6,
aM 7 15] [0, 1, 2, 6, 7])
(.blk 2 (.loop (sq
(sq
(rg [aM 16 7,
aM 17 1,
aB 18 .gtr 16 17,
aM 19 18,
bM 20 19 true 0,
bM 21 19 true 7,
bO 22 19 true (.iaS 1 (aT 20) (aT 21)),
bL 23 19 true 22,
bM 24 19 true 0,
bM 25 19 true 7,
bO 26 19 true (.bin .sub (aT 25) (cI 1)),
bO 27 19 true (.iaS 1 (aT 24) (aT 26)),
bL 28 19 true 27,
bO 29 19 true (.call 191 .pure [(aT 23), (aT 28)]),
aO 30 (.pick (aT 19) (aT 29) (.val (.bool false)))] [0, 1, 2, 6, 7, 30])
(cn 30
.skip
(.ext 2)))
(sq
(.blk 3 (rg [aM 33 0,
aM 34 7,
aM 35 0,
aM 36 7,
aK 37 .sub 36 1,
aM 38 0,
aM 39 7,
aK 40 .sub 39 1,
aI 41 1 38 40,
aL 42 41,
aM 43 0,
aM 44 7,
aI 45 1 43 44,
aL 46 45,
aI 47 1 33 34,
aZ (.st 1 (aT 47) (aT 42)),
aI 48 1 35 37,
aZ (.st 1 (aT 48) (aT 46))] [0, 1, 2, 6, 7]))
(rg [aM 31 7,
aK 32 .sub 31 1,
aM 7 32] [0, 1, 2, 6, 7])))))))
(rg [aM 13 6,
aK 14 .add 13 1,
aM 6 14] [0, 1, 2, 6])))))⟩
def pf186 : PFn := ⟨56, 3, [], sq
(rg [aM 11 1,
aM 6 11] [0, 1, 2, 6])
(sq
(rg [aC 7 0] [0, 1, 2, 6, 7])
(sq
(rg [aM 12 2,
aM 13 1,
aB 14 .sub 12 13,
aM 8 14] [0, 6, 7, 8])
(sq
(sq
(rg [aM 15 8,
aK 16 .sub 15 1,
aK 17 .quo 16 2,
aM 9 17] [0, 6, 7, 8, 9])
(.blk 0 (.loop (sq
(sq
(rg [aM 18 9,
aK 19 .geq 18 0] [0, 6, 7, 8, 9, 19])
(cn 19
.skip
(.ext 0)))
(sq
(.blk 1 (rg [aM 22 0,
aM 23 9,
aM 24 8,
aM 25 6,
aO 26 (.call 206 .opn [(aT 22), (aT 23), (aT 24), (aT 25)])] [0, 6, 7, 8, 9]))
(rg [aM 20 9,
aK 21 .sub 20 1,
aM 9 21] [0, 6, 7, 8, 9]))))))
(sq
(rg [aM 27 8,
aK 28 .sub 27 1,
aM 10 28] [0, 6, 7, 10])
(.blk 2 (.loop (sq
(sq
(rg [aM 29 10,
aK 30 .geq 29 0] [0, 6, 7, 10, 30])
(cn 30
.skip
(.ext 2)))
(sq
(.blk 3 (sq
(rg [aM 33 0,
aM 34 6,
aM 35 0,
aM 36 6,
aM 37 10,
aB 38 .add 36 37,
aM 39 0,
aM 40 6,
aM 41 10,
aB 42 .add 40 41,
aI 43 1 39 42,
aL 44 43,
aM 45 0,
aM 46 6,
aI 47 1 45 46,
aL 48 47,
aI 49 1 33 34,
aZ (.st 1 (aT 49) (aT 44)),
aI 50 1 35 38,
aZ (.st 1 (aT 50) (aT 48))] [0, 6, 7, 10])
(rg [aM 51 0,
aM 52 7,
aM 53 10,
aM 54 6,
aO 55 (.call 206 .opn [(aT 51), (aT 52), (aT 53), (aT 54)])] [0, 6, 7, 10])))
(rg [aM 31 10,
aK 32 .sub 31 1,
aM 10 32] [0, 6, 7, 10])))))))))⟩
def pf187 : PFn := ⟨65, 3, [], sq
(rg [aM 11 2,
aM 12 1,
aB 13 .sub 11 12,
aM 6 13] [0, 1, 6])
(sq
(rg [aM 14 6,
aK 15 .geq 14 8] [0, 1, 6, 15])
(cn 15
(sq
(rg [aM 16 6,
aO 17 (.conv .u64 (aT 16)),
aO 7 (.zer 227 (.int .u64 0)),
aZ (.st 1 (aT 7) (aT 17))] [0, 1, 6, 7])
(sq
(rg [aM 18 6,
aP 19 198 [aT 18],
aM 8 19] [0, 1, 6, 7, 8])
(sq
(rg [aM 20 1,
aM 21 6,
aK 22 .quo 21 4,
aK 23 .mul 22 2,
aB 24 .add 20 23,
aK 25 .sub 24 1,
aM 9 25] [0, 1, 6, 7, 8, 9])
(.blk 0 (.loop (sq
(sq
(rg [aM 26 9,
aM 27 1,
aM 28 6,
aK 29 .quo 28 4,
aK 30 .mul 29 2,
aB 31 .add 27 30,
aK 32 .add 31 1,
aB 33 .leq 26 32] [0, 1, 6, 7, 8, 9, 33])
(cn 33
.skip
(.ext 0)))
(sq
(.blk 1 (sq
(rg [aO 36 (.call 199 .opn [(aT 7)]),
aM 37 8,
aO 38 (.bin .sub (aT 37) (.val (.int .u64 1))),
aB 39 .and 36 38,
aO 40 (.conv .i64 (aT 39)),
aM 10 40] [0, 1, 6, 7, 8, 9, 10])
(sq
(sq
(rg [aM 41 10,
aM 42 6,
aB 43 .geq 41 42] [0, 1, 6, 7, 8, 9, 10, 43])
(cn 43
(rg [aM 44 10,
aM 45 6,
aB 46 .sub 44 45,
aM 10 46] [0, 1, 6, 7, 8, 9, 10])
.skip))
(rg [aM 47 0,
aM 48 9,
aM 49 0,
aM 50 1,
aM 51 10,
aB 52 .add 50 51,
aM 53 0,
aM 54 1,
aM 55 10,
aB 56 .add 54 55,
aI 57 1 53 56,
aL 58 57,
aM 59 0,
aM 60 9,
aI 61 1 59 60,
aL 62 61,
aI 63 1 47 48,
aZ (.st 1 (aT 63) (aT 58)),
aI 64 1 49 52,
aZ (.st 1 (aT 64) (aT 62))] [0, 1, 6, 7, 8, 9]))))
(rg [aM 34 9,
aK 35 .add 34 1,
aM 9 35] [0, 1, 6, 7, 8, 9]))))))))
.skip))⟩
def pf188 : PFn := ⟨57, 3, [.tmp 6, .tmp 7], sq
(rg [aC 6 0,
aC 7 0] [0, 1, 2])
(sq
(rg [aM 13 2,
aM 14 1,
aB 15 .sub 13 14,
aM 8 15] [0, 1, 8])
(sq
(rg [aO 9 (.zer 3 (iP 0))] [0, 1, 8, 9])
(sq
(rg [aM 16 1,
aM 17 8,
aK 18 .quo 17 4,
aK 19 .mul 18 1,
aB 20 .add 16 19,
aM 10 20] [0, 1, 8, 9, 10])
(sq
(rg [aM 21 1,
aM 22 8,
aK 23 .quo 22 4,
aK 24 .mul 23 2,
aB 25 .add 21 24,
aM 11 25] [0, 1, 8, 9, 10, 11])
(sq
(rg [aM 26 1,
aM 27 8,
aK 28 .quo 27 4,
aK 29 .mul 28 3,
aB 30 .add 26 29,
aM 12 30] [0, 8, 9, 10, 11, 12])
(sq
(sq
(rg [aM 31 8,
aK 32 .geq 31 8] [0, 8, 9, 10, 11, 12, 32])
(cn 32
(sq
(sq
(rg [aM 33 8,
aK 34 .geq 33 50] [0, 9, 10, 11, 12, 34])
(cn 34
(sq
(rg [aM 35 0,
aM 36 10,
aP 37 207 [aT 35, aT 36, aT 9],
aM 10 37] [0, 9, 10, 11, 12])
(sq
(rg [aM 38 0,
aM 39 11,
aP 40 207 [aT 38, aT 39, aT 9],
aM 11 40] [0, 9, 10, 11, 12])
(rg [aM 41 0,
aM 42 12,
aP 43 207 [aT 41, aT 42, aT 9],
aM 12 43] [0, 9, 10, 11, 12])))
.skip))
(rg [aM 44 0,
aM 45 10,
aM 46 11,
aM 47 12,
aP 48 208 [aT 44, aT 45, aT 46, aT 47, aT 9],
aM 11 48] [9, 11]))
.skip))
(sq
(rg [aL 49 9] [11, 49])
(.blk 0 (sq
(rg [aK 52 .eql 49 0,
aM 51 52] [11, 49, 51])
(cn 51
(sq
(rg [aM 53 11,
aM 6 53,
aC 7 1] [6, 7])
.ret)
(sq
(rg [aK 55 .eql 49 12,
aM 54 55] [11, 54])
(cn 54
(sq
(rg [aM 56 11,
aM 6 56,
aC 7 2] [6, 7])
.ret)
(sq
(rg [aM 50 11,
aM 6 50,
aC 7 0] [6, 7])
.ret)))))))))))))⟩
def pf189 : PFn := ⟨32, 3, [], sq
(rg [aM 8 1,
aM 6 8] [0, 2, 6])
(sq
(rg [aM 9 2,
aK 10 .sub 9 1,
aM 7 10] [0, 6, 7])
(.blk 0 (.loop (sq
(sq
(rg [aM 11 6,
aM 12 7,
aB 13 .lss 11 12] [0, 6, 7, 13])
(cn 13
.skip
(.ext 0)))
(.blk 1 (sq
(rg [aM 14 0,
aM 15 6,
aM 16 0,
aM 17 7,
aM 18 0,
aM 19 7,
aI 20 1 18 19,
aL 21 20,
aM 22 0,
aM 23 6,
aI 24 1 22 23,
aL 25 24,
aI 26 1 14 15,
aZ (.st 1 (aT 26) (aT 21)),
aI 27 1 16 17,
aZ (.st 1 (aT 27) (aT 25))] [0, 6, 7])
(sq
(rg [aM 28 6,
aK 29 .add 28 1,
aM 6 29] [0, 6, 7])
(rg [aM 30 7,
aK 31 .sub 30 1,
aM 7 31] [0, 6, 7]))))))))⟩
def pf190 : PFn := ⟨133, 3, [.tmp 6], sq
(rg [aU 6 false] [0, 1, 2])
(sq
(rg [aM 11 1,
aK 12 .add 11 1,
aM 7 12] [0, 1, 2, 7])
(sq
(sq
(rg [aC 8 0] [0, 1, 2, 7, 8])
(.blk 0 (.loop (sq
(sq
(rg [aM 13 8,
aK 14 .lss 13 5] [0, 1, 2, 7, 8, 14])
(cn 14
.skip
(.ext 0)))
(sq
(.blk 1 (sq
(.blk 2 (.loop (sq
(sq
(rg [aM 17 7,
aM 18 2,
aB 19 .lss 17 18,
aM 20 19,
bM 21 20 true 0,
bM 22 20 true 7,
bO 23 20 true (.iaS 1 (aT 21) (aT 22)),
bL 24 20 true 23,
bM 25 20 true 0,
bM 26 20 true 7,
bO 27 20 true (.bin .sub (aT 26) (cI 1)),
bO 28 20 true (.iaS 1 (aT 25) (aT 27)),
bL 29 20 true 28,
bO 30 20 true (.call 191 .pure [(aT 24), (aT 29)]),
bO 31 20 true (.un .not (aT 30)),
aO 32 (.pick (aT 20) (aT 31) (.val (.bool false)))] [0, 1, 2, 7, 8, 32])
(cn 32
.skip
(.ext 2)))
(.blk 3 (rg [aM 33 7,
aK 34 .add 33 1,
aM 7 34] [0, 1, 2, 7, 8])))))
(sq
(sq
(rg [aM 35 7,
aM 36 2,
aB 37 .eql 35 36] [0, 1, 2, 7, 8, 37])
(cn 37
(sq
(rg [aU 6 true] [6])
.ret)
.skip))
(sq
(sq
(rg [aM 38 2,
aM 39 1,
aB 40 .sub 38 39,
aK 41 .lss 40 50] [0, 1, 2, 7, 8, 41])
(cn 41
(sq
(rg [aU 6 false] [6])
.ret)
.skip))
(sq
(rg [aM 42 0,
aM 43 7,
aM 44 0,
aM 45 7,
aK 46 .sub 45 1,
aM 47 0,
aM 48 7,
aK 49 .sub 48 1,
aI 50 1 47 49,
aL 51 50,
aM 52 0,
aM 53 7,
aI 54 1 52 53,
aL 55 54,
aI 56 1 42 43,
aZ (.st 1 (aT 56) (aT 51)),
aI 57 1 44 46,
aZ (.st 1 (aT 57) (aT 55))] [0, 1, 2, 7, 8])
(sq
(sq
(rg [aM 58 7,
aM 59 1,
aB 60 .sub 58 59,
aK 61 .geq 60 2] [0, 1, 2, 7, 8, 61])
(cn 61
(sq
(rg [aM 62 7,
aK 63 .sub 62 1,
aM 9 63] [0, 1, 2, 7, 8, 9])
(.blk 4 (.loop (sq
(sq
(rg [aM 64 9,
aK 65 .geq 64 1] [0, 1, 2, 7, 8, 9, 65])
(cn 65
.skip
(.ext 4)))
(sq
(.blk 5 (sq
(sq
(rg [aM 68 0,
aM 69 9,
aI 70 1 68 69,
aL 71 70,
aM 72 0,
aM 73 9,
aK 74 .sub 73 1,
aI 75 1 72 74,
aL 76 75,
aP 77 191 [aT 71, aT 76],
aO 78 (.un .not (aT 77))] [0, 1, 2, 7, 8, 9, 78])
(cn 78
(.ext 4)
.skip))
(rg [aM 79 0,
aM 80 9,
aM 81 0,
aM 82 9,
aK 83 .sub 82 1,
aM 84 0,
aM 85 9,
aK 86 .sub 85 1,
aI 87 1 84 86,
aL 88 87,
aM 89 0,
aM 90 9,
aI 91 1 89 90,
aL 92 91,
aI 93 1 79 80,
aZ (.st 1 (aT 93) (aT 88)),
aI 94 1 81 83,
aZ (.st 1 (aT 94) (aT 92))] [0, 1, 2, 7, 8, 9])))
(rg [aM 66 9,
aK 67 .sub 66 1,
aM 9 67] [0, 1, 2, 7, 8, 9]))))))
.skip))
(sq
(rg [aM 95 2,
aM 96 7,
aB 97 .sub 95 96,
aK 98 .geq 97 2] [0, 1, 2, 7, 8, 98])
(cn 98
(sq
(rg [aM 99 7,
aK 100 .add 99 1,
aM 10 100] [0, 1, 2, 7, 8, 10])
(.blk 6 (.loop (sq
(sq
(rg [aM 101 10,
aM 102 2,
aB 103 .lss 101 102] [0, 1, 2, 7, 8, 10, 103])
(cn 103
.skip
(.ext 6)))
(sq
(.blk 7 (sq
(sq
(rg [aM 106 0,
aM 107 10,
aI 108 1 106 107,
aL 109 108,
aM 110 0,
aM 111 10,
aK 112 .sub 111 1,
aI 113 1 110 112,
aL 114 113,
aP 115 191 [aT 109, aT 114],
aO 116 (.un .not (aT 115))] [0, 1, 2, 7, 8, 10, 116])
(cn 116
(.ext 6)
.skip))
(rg [aM 117 0,
aM 118 10,
aM 119 0,
aM 120 10,
aK 121 .sub 120 1,
aM 122 0,
aM 123 10,
aK 124 .sub 123 1,
aI 125 1 122 124,
aL 126 125,
aM 127 0,
aM 128 10,
aI 129 1 127 128,
aL 130 129,
aI 131 1 117 118,
aZ (.st 1 (aT 131) (aT 126)),
aI 132 1 119 121,
aZ (.st 1 (aT 132) (aT 130))] [0, 1, 2, 7, 8, 10])))
(rg [aM 104 10,
aK 105 .add 104 1,
aM 10 105] [0, 1, 2, 7, 8, 10]))))))
.skip))))))))
(rg [aM 15 8,
aK 16 .add 15 1,
aM 8 16] [0, 1, 2, 7, 8]))))))
(sq
(rg [aU 6 false] [6])
.ret)))⟩
def pf191 : PFn := ⟨17, 2, [.tmp 4], sq
(rg [aU 4 false] [0, 1])
(sq
(rg [aM 5 0,
aP 6 150 [aT 5],
aM 7 6,
bM 8 7 true 1,
bO 9 7 true (.call 150 .pure [(aT 8)]),
bO 10 7 true (.un .not (aT 9)),
aO 11 (.pick (aT 7) (aT 10) (.val (.bool false))),
aM 12 11,
bM 13 12 false 0,
bM 14 12 false 1,
bO 15 12 false (.bin .lss (aT 13) (aT 14)),
aO 16 (.pick (aT 12) (.val (.bool true)) (aT 15)),
aM 4 16] [4])
.ret)⟩
def pf192 : PFn := ⟨84, 4, [.tmp 8], sq
(rg [aC 8 0] [0, 1, 2, 3])
(sq
(rg [aM 11 0,
aM 12 1,
aM 13 0,
aM 14 3,
aM 15 0,
aM 16 3,
aI 17 1 15 16,
aL 18 17,
aM 19 0,
aM 20 1,
aI 21 1 19 20,
aL 22 21,
aI 23 1 11 12,
aZ (.st 1 (aT 23) (aT 18)),
aI 24 1 13 14,
aZ (.st 1 (aT 24) (aT 22))] [0, 1, 2])
(sq
(rg [aM 25 1,
aK 26 .add 25 1,
aM 27 2,
aK 28 .sub 27 1,
aM 9 26,
aM 10 28] [0, 1, 9, 10])
(sq
(.blk 0 (.loop (.blk 1 (sq
(.blk 2 (.loop (sq
(sq
(rg [aM 29 9,
aM 30 10,
aB 31 .leq 29 30,
aM 32 31,
bM 33 32 true 0,
bM 34 32 true 1,
bO 35 32 true (.iaS 1 (aT 33) (aT 34)),
bL 36 32 true 35,
bM 37 32 true 0,
bM 38 32 true 9,
bO 39 32 true (.iaS 1 (aT 37) (aT 38)),
bL 40 32 true 39,
bO 41 32 true (.call 191 .pure [(aT 36), (aT 40)]),
bO 42 32 true (.un .not (aT 41)),
aO 43 (.pick (aT 32) (aT 42) (.val (.bool false)))] [0, 1, 9, 10, 43])
(cn 43
.skip
(.ext 2)))
(.blk 3 (rg [aM 44 9,
aK 45 .add 44 1,
aM 9 45] [0, 1, 9, 10])))))
(sq
(.blk 4 (.loop (sq
(sq
(rg [aM 46 9,
aM 47 10,
aB 48 .leq 46 47,
aM 49 48,
bM 50 49 true 0,
bM 51 49 true 1,
bO 52 49 true (.iaS 1 (aT 50) (aT 51)),
bL 53 49 true 52,
bM 54 49 true 0,
bM 55 49 true 10,
bO 56 49 true (.iaS 1 (aT 54) (aT 55)),
bL 57 49 true 56,
bO 58 49 true (.call 191 .pure [(aT 53), (aT 57)]),
aO 59 (.pick (aT 49) (aT 58) (.val (.bool false)))] [0, 1, 9, 10, 59])
(cn 59
.skip
(.ext 4)))
(.blk 5 (rg [aM 60 10,
aK 61 .sub 60 1,
aM 10 61] [0, 1, 9, 10])))))
(sq
(sq
(rg [aM 62 9,
aM 63 10,
aB 64 .gtr 62 63] [0, 1, 9, 10, 64])
(cn 64
(.ext 0)
.skip))
(sq
(rg [aM 65 0,
aM 66 9,
aM 67 0,
aM 68 10,
aM 69 0,
aM 70 10,
aI 71 1 69 70,
aL 72 71,
aM 73 0,
aM 74 9,
aI 75 1 73 74,
aL 76 75,
aI 77 1 65 66,
aZ (.st 1 (aT 77) (aT 72)),
aI 78 1 67 68,
aZ (.st 1 (aT 78) (aT 76))] [0, 1, 9, 10])
(sq
(rg [aM 79 9,
aK 80 .add 79 1,
aM 9 80] [0, 1, 9, 10])
(rg [aM 81 10,
aK 82 .sub 81 1,
aM 10 82] [0, 1, 9, 10])))))))))
(sq
(rg [aM 83 9,
aM 8 83] [8])
.ret))))⟩
def pf193 : PFn := ⟨168, 4, [.tmp 8, .tmp 9], sq
(rg [aC 8 0,
aU 9 false] [0, 1, 2, 3])
(sq
(rg [aM 12 0,
aM 13 1,
aM 14 0,
aM 15 3,
aM 16 0,
aM 17 3,
aI 18 1 16 17,
aL 19 18,
aM 20 0,
aM 21 1,
aI 22 1 20 21,
aL 23 22,
aI 24 1 12 13,
aZ (.st 1 (aT 24) (aT 19)),
aI 25 1 14 15,
aZ (.st 1 (aT 25) (aT 23))] [0, 1, 2])
(sq
(rg [aM 26 1,
aK 27 .add 26 1,
aM 28 2,
aK 29 .sub 28 1,
aM 10 27,
aM 11 29] [0, 1, 10, 11])
(sq
(.blk 0 (.loop (sq
(sq
(rg [aM 30 10,
aM 31 11,
aB 32 .leq 30 31,
aM 33 32,
bM 34 33 true 0,
bM 35 33 true 10,
bO 36 33 true (.iaS 1 (aT 34) (aT 35)),
bL 37 33 true 36,
bM 38 33 true 0,
bM 39 33 true 1,
bO 40 33 true (.iaS 1 (aT 38) (aT 39)),
bL 41 33 true 40,
bO 42 33 true (.call 191 .pure [(aT 37), (aT 41)]),
aO 43 (.pick (aT 33) (aT 42) (.val (.bool false)))] [0, 1, 10, 11, 43])
(cn 43
.skip
(.ext 0)))
(.blk 1 (rg [aM 44 10,
aK 45 .add 44 1,
aM 10 45] [0, 1, 10, 11])))))
(sq
(.blk 2 (.loop (sq
(sq
(rg [aM 46 10,
aM 47 11,
aB 48 .leq 46 47,
aM 49 48,
bM 50 49 true 0,
bM 51 49 true 11,
bO 52 49 true (.iaS 1 (aT 50) (aT 51)),
bL 53 49 true 52,
bM 54 49 true 0,
bM 55 49 true 1,
bO 56 49 true (.iaS 1 (aT 54) (aT 55)),
bL 57 49 true 56,
bO 58 49 true (.call 191 .pure [(aT 53), (aT 57)]),
bO 59 49 true (.un .not (aT 58)),
aO 60 (.pick (aT 49) (aT 59) (.val (.bool false)))] [0, 1, 10, 11, 60])
(cn 60
.skip
(.ext 2)))
(.blk 3 (rg [aM 61 11,
aK 62 .sub 61 1,
aM 11 62] [0, 1, 10, 11])))))
(sq
(sq
(rg [aM 63 10,
aM 64 11,
aB 65 .gtr 63 64] [0, 1, 10, 11, 65])
(cn 65
(sq
(rg [aM 66 0,
aM 67 11,
aM 68 0,
aM 69 1,
aM 70 0,
aM 71 1,
aI 72 1 70 71,
aL 73 72,
aM 74 0,
aM 75 11,
aI 76 1 74 75,
aL 77 76,
aI 78 1 66 67,
aZ (.st 1 (aT 78) (aT 73)),
aI 79 1 68 69,
aZ (.st 1 (aT 79) (aT 77))] [11])
(sq
(rg [aM 80 11,
aM 8 80,
aU 9 true] [8, 9])
.ret))
.skip))
(sq
(rg [aM 81 0,
aM 82 10,
aM 83 0,
aM 84 11,
aM 85 0,
aM 86 11,
aI 87 1 85 86,
aL 88 87,
aM 89 0,
aM 90 10,
aI 91 1 89 90,
aL 92 91,
aI 93 1 81 82,
aZ (.st 1 (aT 93) (aT 88)),
aI 94 1 83 84,
aZ (.st 1 (aT 94) (aT 92))] [0, 1, 10, 11])
(sq
(rg [aM 95 10,
aK 96 .add 95 1,
aM 10 96] [0, 1, 10, 11])
(sq
(rg [aM 97 11,
aK 98 .sub 97 1,
aM 11 98] [0, 1, 10, 11])
(sq
(.blk 4 (.loop (.blk 5 (sq
(.blk 6 (.loop (sq
(sq
(rg [aM 99 10,
aM 100 11,
aB 101 .leq 99 100,
aM 102 101,
bM 103 102 true 0,
bM 104 102 true 10,
bO 105 102 true (.iaS 1 (aT 103) (aT 104)),
bL 106 102 true 105,
bM 107 102 true 0,
bM 108 102 true 1,
bO 109 102 true (.iaS 1 (aT 107) (aT 108)),
bL 110 102 true 109,
bO 111 102 true (.call 191 .pure [(aT 106), (aT 110)]),
aO 112 (.pick (aT 102) (aT 111) (.val (.bool false)))] [0, 1, 10, 11, 112])
(cn 112
.skip
(.ext 6)))
(.blk 7 (rg [aM 113 10,
aK 114 .add 113 1,
aM 10 114] [0, 1, 10, 11])))))
(sq
(.blk 8 (.loop (sq
(sq
(rg [aM 115 10,
aM 116 11,
aB 117 .leq 115 116,
aM 118 117,
bM 119 118 true 0,
bM 120 118 true 11,
bO 121 118 true (.iaS 1 (aT 119) (aT 120)),
bL 122 118 true 121,
bM 123 118 true 0,
bM 124 118 true 1,
bO 125 118 true (.iaS 1 (aT 123) (aT 124)),
bL 126 118 true 125,
bO 127 118 true (.call 191 .pure [(aT 122), (aT 126)]),
bO 128 118 true (.un .not (aT 127)),
aO 129 (.pick (aT 118) (aT 128) (.val (.bool false)))] [0, 1, 10, 11, 129])
(cn 129
.skip
(.ext 8)))
(.blk 9 (rg [aM 130 11,
aK 131 .sub 130 1,
aM 11 131] [0, 1, 10, 11])))))
(sq
(sq
(rg [aM 132 10,
aM 133 11,
aB 134 .gtr 132 133] [0, 1, 10, 11, 134])
(cn 134
(.ext 4)
.skip))
(sq
(rg [aM 135 0,
aM 136 10,
aM 137 0,
aM 138 11,
aM 139 0,
aM 140 11,
aI 141 1 139 140,
aL 142 141,
aM 143 0,
aM 144 10,
aI 145 1 143 144,
aL 146 145,
aI 147 1 135 136,
aZ (.st 1 (aT 147) (aT 142)),
aI 148 1 137 138,
aZ (.st 1 (aT 148) (aT 146))] [0, 1, 10, 11])
(sq
(rg [aM 149 10,
aK 150 .add 149 1,
aM 10 150] [0, 1, 10, 11])
(rg [aM 151 11,
aK 152 .sub 151 1,
aM 11 152] [0, 1, 10, 11])))))))))
(sq
(rg [aM 153 0,
aM 154 11,
aM 155 0,
aM 156 1,
aM 157 0,
aM 158 1,
aI 159 1 157 158,
aL 160 159,
aM 161 0,
aM 162 11,
aI 163 1 161 162,
aL 164 163,
aI 165 1 153 154,
aZ (.st 1 (aT 165) (aT 160)),
aI 166 1 155 156,
aZ (.st 1 (aT 166) (aT 164))] [11])
(sq
(rg [aM 167 11,
aM 8 167,
aU 9 false] [8, 9])
.ret)))))))))))⟩
def pf194 : PFn := ⟨30, 2, [.tmp 4], sq
(rg [aO 4 (.mv (.val (.list .nil 1 [])))] [0, 1])
(sq
(rg [aO 5 (.nacc 3 1)] [0, 1, 5])
(sq
(sq
(rg [aM 8 1,
aG 9 8,
aC 10 0] [0, 5, 8, 9, 10])
(.blk 0 (.loop (.trim (sq
(rg [aB 11 .lss 10 9] [0, 5, 8, 9, 10, 11])
(sq
(cn 11
.skip
(.ext 0))
(sq
(.blk 1 (sq
(rg [aI 12 3 8 10,
aN 13 3 12,
aO 7 (.zer 54 (.agg [(iP 0), (iP 0), (iP 0)])),
aZ (.st 3 (aT 7) (aT 13))] [0, 5, 7, 8, 9, 10])
(rg [aM 14 5,
aM 15 0,
aF 16 0 7,
aL 17 16,
aF 18 1 7,
aL 19 18,
aP 20 204 [aT 17, aT 19],
aI 21 1 15 20,
aL 22 21,
aO 23 (.bsl 1 1 [(iP 0)] [(0, 1, (aT 22))]),
aO 24 (.app 3 1 8 (aT 14) (aT 23)),
aM 5 24] [0, 5, 8, 9, 10])))
(rg [aK 25 .add 10 1,
aM 10 25] [0, 5, 8, 9, 10]))))))))
(sq
(rg [aM 26 5,
aO 27 (.call 146 .opn [(aT 26)])] [5])
(sq
(rg [aM 28 5,
aO 29 (.call 147 .opn [(aT 28)]),
aM 4 29] [4])
.ret))))⟩
def pf195 : PFn := ⟨55, 5, [.tmp 10], sq
(rg [aU 10 false] [0, 1, 2, 3, 4])
(sq
(.reg [aM 13 0,
aM 14 2,
aI 15 4 13 14,
aN 16 4 15,
aM 17 0,
aM 18 3,
aI 19 4 17 18,
aN 20 4 19,
aO 11 (.zer 75 (.agg [(iP 0), (iP 0), (iP 0), (iP 0)])),
aO 12 (.zer 75 (.agg [(iP 0), (iP 0), (iP 0), (iP 0)])),
aZ (.st 4 (aT 11) (aT 16)),
aZ (.st 4 (aT 12) (aT 20))] [(3, 0), (7, 0), (7, 10), (7, 11)] [1, 4, 11, 12])
(sq
(rg [aF 21 3 12,
aL 22 21,
aK 23 .eql 22 2,
aM 24 23,
bF 25 24 false 3 12,
bL 26 24 false 25,
bO 27 24 false (.bin .eql (aT 26) (cI 3)),
aO 28 (.pick (aT 24) (.val (.bool true)) (aT 27)),
aM 29 28,
bM 30 29 true 1,
bF 31 29 true 0 12,
bL 32 29 true 31,
bF 33 29 true 1 12,
bL 34 29 true 33,
bO 35 29 true (.call 204 .pure [(aT 32), (aT 34)]),
bO 36 29 true (.iaS 1 (aT 30) (aT 35)),
bL 37 29 true 36,
bM 38 29 true 4,
bO 39 29 true (.bin .eql (aT 37) (aT 38)),
aO 40 (.pick (aT 29) (aT 39) (.val (.bool false))),
aM 41 40,
bF 42 41 true 0 12,
bL 43 41 true 42,
bF 44 41 true 0 11,
bL 45 41 true 44,
bO 46 41 true (.bin .neq (aT 43) (aT 45)),
bM 47 41 true 46,
bF 48 47 false 1 12,
bL 49 47 false 48,
bF 50 47 false 1 11,
bL 51 47 false 50,
bO 52 47 false (.bin .neq (aT 49) (aT 51)),
bO 53 41 true (.pick (aT 47) (.val (.bool true)) (aT 52)),
aO 54 (.pick (aT 41) (aT 53) (.val (.bool false))),
aM 10 54] [10])
.ret))⟩
def pf197 : PFn := ⟨82, 5, [], sq
(rg [aM 12 1,
aM 10 12] [0, 2, 3, 4, 10])
(.blk 0 (.loop (.blk 1 (sq
(rg [aM 13 10,
aO 14 (.bin .mul (cI 2) (aT 13)),
aK 15 .add 14 1,
aM 11 15] [0, 2, 3, 4, 10, 11])
(sq
(sq
(rg [aM 16 11,
aM 17 2,
aB 18 .geq 16 17] [0, 2, 3, 4, 10, 11, 18])
(cn 18
(.ext 0)
.skip))
(sq
(sq
(rg [aM 19 11,
aK 20 .add 19 1,
aM 21 2,
aB 22 .lss 20 21,
aM 23 22,
bM 24 23 true 4,
bM 25 23 true 0,
bM 26 23 true 3,
bM 27 23 true 11,
bO 28 23 true (.bin .add (aT 26) (aT 27)),
bO 29 23 true (.iaS 3 (aT 25) (aT 28)),
bN 30 23 true 3 29,
bM 31 23 true 0,
bM 32 23 true 3,
bM 33 23 true 11,
bO 34 23 true (.bin .add (aT 32) (aT 33)),
bO 35 23 true (.bin .add (aT 34) (cI 1)),
bO 36 23 true (.iaS 3 (aT 31) (aT 35)),
bN 37 23 true 3 36,
bO 38 23 true (.callv (aT 24) .pure [(aT 30), (aT 37)]),
bO 39 23 true (.bin .lss (aT 38) (cI 0)),
aO 40 (.pick (aT 23) (aT 39) (.val (.bool false)))] [0, 2, 3, 4, 10, 11, 40])
(cn 40
(rg [aM 41 11,
aK 42 .add 41 1,
aM 11 42] [0, 2, 3, 4, 10, 11])
.skip))
(sq
(sq
(rg [aM 43 4,
aM 44 0,
aM 45 3,
aM 46 10,
aB 47 .add 45 46,
aI 48 3 44 47,
aN 49 3 48,
aM 50 0,
aM 51 3,
aM 52 11,
aB 53 .add 51 52,
aI 54 3 50 53,
aN 55 3 54,
aO 56 (.callv (aT 43) .pure [(aT 49), (aT 55)]),
aK 57 .lss 56 0,
aO 58 (.un .not (aT 57))] [0, 2, 3, 4, 10, 11, 58])
(cn 58
.ret
.skip))
(sq
(rg [aM 59 0,
aM 60 3,
aM 61 10,
aB 62 .add 60 61,
aM 63 0,
aM 64 3,
aM 65 11,
aB 66 .add 64 65,
aM 67 0,
aM 68 3,
aM 69 11,
aB 70 .add 68 69,
aI 71 3 67 70,
aN 72 3 71,
aM 73 0,
aM 74 3,
aM 75 10,
aB 76 .add 74 75,
aI 77 3 73 76,
aN 78 3 77,
aI 79 3 59 62,
aZ (.st 3 (aT 79) (aT 72)),
aI 80 3 63 66,
aZ (.st 3 (aT 80) (aT 78))] [0, 2, 3, 4, 11])
(rg [aM 81 11,
aM 10 81] [0, 2, 3, 4, 10])))))))))⟩
def pf198 : PFn := ⟨7, 1, [.tmp 2], sq
(rg [aO 2 (.mv (.val (.int .u64 0)))] [0])
(sq
(rg [aM 3 0,
aO 4 (.conv .u64 (aT 3)),
aP 5 160 [aT 4],
aO 6 (.bin .shl (.val (.int .u64 1)) (aT 5)),
aM 2 6] [2])
.ret)⟩
def pf199 : PFn := ⟨33, 1, [.tmp 2], sq
(rg [aO 2 (.mv (.val (.int .u64 0)))] [0])
(sq
(rg [aM 3 0,
aO 4 (.nck (aT 3)),
aL 5 4,
aM 6 0,
aO 7 (.nck (aT 6)),
aL 8 7,
aO 9 (.bin .shl (aT 8) (.val (.int .u64 13))),
aB 10 .xor 5 9,
aO 11 (.nck (aT 3)),
aZ (.st 1 (aT 11) (aT 10))] [0])
(sq
(rg [aM 12 0,
aO 13 (.nck (aT 12)),
aL 14 13,
aM 15 0,
aO 16 (.nck (aT 15)),
aL 17 16,
aO 18 (.bin .shr (aT 17) (.val (.int .u64 7))),
aB 19 .xor 14 18,
aO 20 (.nck (aT 12)),
aZ (.st 1 (aT 20) (aT 19))] [0])
(sq
(rg [aM 21 0,
aO 22 (.nck (aT 21)),
aL 23 22,
aM 24 0,
aO 25 (.nck (aT 24)),
aL 26 25,
aO 27 (.bin .shl (aT 26) (.val (.int .u64 17))),
aB 28 .xor 23 27,
aO 29 (.nck (aT 21)),
aZ (.st 1 (aT 29) (aT 28))] [0])
(sq
(rg [aM 30 0,
aO 31 (.nck (aT 30)),
aL 32 31,
aM 2 32] [2])
.ret))))⟩
def pf200 : PFn := ⟨18, 4, [.tmp 8], sq
(rg [aC 8 0] [0, 1, 2, 3])
(sq
(rg [aM 9 0,
aM 10 1,
aK 11 .sub 10 1,
aM 12 1,
aM 13 1,
aK 14 .add 13 1,
aM 15 2,
aM 16 3,
aP 17 201 [aT 9, aT 11, aT 12, aT 14, aT 15, aT 16],
aM 8 17] [8])
.ret)⟩
def pf201 : PFn := ⟨41, 6, [.tmp 12], sq
(rg [aC 12 0] [0, 1, 2, 3, 4, 5])
(sq
(rg [aM 14 0,
aM 15 1,
aM 16 2,
aM 17 4,
aM 18 5,
aP 19 209 [aT 14, aT 15, aT 16, aT 17, aT 18],
aM 13 19,
aE 20 0 13,
aE 21 1 13,
aM 1 20,
aM 2 21] [0, 1, 2, 3, 4, 5])
(sq
(rg [aM 23 0,
aM 24 2,
aM 25 3,
aM 26 4,
aM 27 5,
aP 28 209 [aT 23, aT 24, aT 25, aT 26, aT 27],
aM 22 28,
aE 29 0 22,
aE 30 1 22,
aM 2 29,
aM 3 30] [0, 1, 2, 4, 5])
(sq
(rg [aM 32 0,
aM 33 1,
aM 34 2,
aM 35 4,
aM 36 5,
aP 37 209 [aT 32, aT 33, aT 34, aT 35, aT 36],
aM 31 37,
aE 38 0 31,
aE 39 1 31,
aM 1 38,
aM 2 39] [2])
(sq
(rg [aM 40 2,
aM 12 40] [12])
.ret))))⟩
def pf202 : PFn := ⟨23, 2, [.tmp 4], sq
(rg [aU 4 false] [0, 1])
(sq
(rg [aM 5 0,
aK 6 .geq 5 2,
aM 7 6,
bM 8 7 true 1,
bO 9 7 true (.bin .geq (aT 8) (cI 2)),
aO 10 (.pick (aT 7) (aT 9) (.val (.bool false))),
aM 11 10,
bM 12 11 true 0,
bM 13 11 true 1,
bO 14 11 true (.bin .sub (aT 12) (aT 13)),
bO 15 11 true (.bin .eql (aT 14) (cI 2)),
bM 16 11 true 15,
bM 17 16 false 1,
bM 18 16 false 0,
bO 19 16 false (.bin .sub (aT 17) (aT 18)),
bO 20 16 false (.bin .eql (aT 19) (cI 2)),
bO 21 11 true (.pick (aT 16) (.val (.bool true)) (aT 20)),
aO 22 (.pick (aT 11) (aT 21) (.val (.bool false))),
aM 4 22] [4])
.ret)⟩
def pf203 : PFn := ⟨20, 3, [], sq
(rg [aM 6 0,
aM 7 1,
aO 8 (.call 184 .opn [(aT 6), (aT 7)]),
aM 9 0,
aM 10 2,
aO 11 (.call 184 .opn [(aT 9), (aT 10)]),
aM 1 8,
aM 2 11] [0, 1, 2])
(rg [aM 12 0,
aM 13 1,
aM 14 2,
aO 15 (.mx (aT 13) [(aT 14)]),
aM 16 1,
aM 17 2,
aO 18 (.mn (aT 16) [(aT 17)]),
aI 19 1 12 15,
aZ (.st 1 (aT 19) (aT 18))] [])⟩
def pf204 : PFn := ⟨9, 2, [.tmp 4], sq
(rg [aC 4 0] [0, 1])
(sq
(rg [aM 5 0,
aO 6 (.bin .mul (cI 8) (aT 5)),
aM 7 1,
aB 8 .add 6 7,
aM 4 8] [4])
.ret)⟩
def pf205 : PFn := ⟨21, 4, [.tmp 8], sq
(rg [aU 8 false] [0, 1, 2, 3])
(sq
(rg [aM 12 0,
aM 13 1,
aM 14 2,
aM 15 3,
aO 16 (.bld [(iP 0), (iP 0), (iP 0), (iP 0)] [(0, 1, (aT 13)), (1, 1, (aT 14)), (2, 1, (aT 15))]),
aP 17 210 [aT 12, aT 16],
aM 11 17,
aE 18 0 11,
aE 19 1 11,
aM 9 18,
aM 10 19] [10])
(sq
(rg [aM 20 10,
aM 8 20] [8])
.ret))⟩
def pf206 : PFn := ⟨76, 4, [], sq
(rg [aM 10 1,
aM 8 10] [0, 2, 3, 8])
(.blk 0 (.loop (.blk 1 (sq
(rg [aM 11 8,
aO 12 (.bin .mul (cI 2) (aT 11)),
aK 13 .add 12 1,
aM 9 13] [0, 2, 3, 8, 9])
(sq
(sq
(rg [aM 14 9,
aM 15 2,
aB 16 .geq 14 15] [0, 2, 3, 8, 9, 16])
(cn 16
(.ext 0)
.skip))
(sq
(sq
(rg [aM 17 9,
aK 18 .add 17 1,
aM 19 2,
aB 20 .lss 18 19,
aM 21 20,
bM 22 21 true 0,
bM 23 21 true 3,
bM 24 21 true 9,
bO 25 21 true (.bin .add (aT 23) (aT 24)),
bO 26 21 true (.iaS 1 (aT 22) (aT 25)),
bL 27 21 true 26,
bM 28 21 true 0,
bM 29 21 true 3,
bM 30 21 true 9,
bO 31 21 true (.bin .add (aT 29) (aT 30)),
bO 32 21 true (.bin .add (aT 31) (cI 1)),
bO 33 21 true (.iaS 1 (aT 28) (aT 32)),
bL 34 21 true 33,
bO 35 21 true (.call 191 .pure [(aT 27), (aT 34)]),
aO 36 (.pick (aT 21) (aT 35) (.val (.bool false)))] [0, 2, 3, 8, 9, 36])
(cn 36
(rg [aM 37 9,
aK 38 .add 37 1,
aM 9 38] [0, 2, 3, 8, 9])
.skip))
(sq
(sq
(rg [aM 39 0,
aM 40 3,
aM 41 8,
aB 42 .add 40 41,
aI 43 1 39 42,
aL 44 43,
aM 45 0,
aM 46 3,
aM 47 9,
aB 48 .add 46 47,
aI 49 1 45 48,
aL 50 49,
aP 51 191 [aT 44, aT 50],
aO 52 (.un .not (aT 51))] [0, 2, 3, 8, 9, 52])
(cn 52
.ret
.skip))
(sq
(rg [aM 53 0,
aM 54 3,
aM 55 8,
aB 56 .add 54 55,
aM 57 0,
aM 58 3,
aM 59 9,
aB 60 .add 58 59,
aM 61 0,
aM 62 3,
aM 63 9,
aB 64 .add 62 63,
aI 65 1 61 64,
aL 66 65,
aM 67 0,
aM 68 3,
aM 69 8,
aB 70 .add 68 69,
aI 71 1 67 70,
aL 72 71,
aI 73 1 53 56,
aZ (.st 1 (aT 73) (aT 66)),
aI 74 1 57 60,
aZ (.st 1 (aT 74) (aT 72))] [0, 2, 3, 9])
(rg [aM 75 9,
aM 8 75] [0, 2, 3, 8])))))))))⟩
def pf207 : PFn := ⟨15, 3, [.tmp 6], sq
(rg [aC 6 0] [0, 1, 2])
(sq
(rg [aM 7 0,
aM 8 1,
aK 9 .sub 8 1,
aM 10 1,
aM 11 1,
aK 12 .add 11 1,
aM 13 2,
aP 14 208 [aT 7, aT 9, aT 10, aT 12, aT 13],
aM 6 14] [6])
.ret)⟩
def pf208 : PFn := ⟨36, 5, [.tmp 10], sq
(rg [aC 10 0] [0, 1, 2, 3, 4])
(sq
(rg [aM 12 0,
aM 13 1,
aM 14 2,
aM 15 4,
aP 16 211 [aT 12, aT 13, aT 14, aT 15],
aM 11 16,
aE 17 0 11,
aE 18 1 11,
aM 1 17,
aM 2 18] [0, 1, 2, 3, 4])
(sq
(rg [aM 20 0,
aM 21 2,
aM 22 3,
aM 23 4,
aP 24 211 [aT 20, aT 21, aT 22, aT 23],
aM 19 24,
aE 25 0 19,
aE 26 1 19,
aM 2 25,
aM 3 26] [0, 1, 2, 4])
(sq
(rg [aM 28 0,
aM 29 1,
aM 30 2,
aM 31 4,
aP 32 211 [aT 28, aT 29, aT 30, aT 31],
aM 27 32,
aE 33 0 27,
aE 34 1 27,
aM 1 33,
aM 2 34] [2])
(sq
(rg [aM 35 2,
aM 10 35] [10])
.ret))))⟩
def pf209 : PFn := ⟨32, 5, [.tmp 10, .tmp 11], sq
(rg [aC 10 0,
aC 11 0] [0, 1, 2, 3, 4])
(sq
(sq
(rg [aM 12 4,
aM 13 0,
aM 14 2,
aI 15 3 13 14,
aN 16 3 15,
aM 17 0,
aM 18 1,
aI 19 3 17 18,
aN 20 3 19,
aO 21 (.callv (aT 12) .pure [(aT 16), (aT 20)]),
aK 22 .lss 21 0] [1, 2, 3, 22])
(cn 22
(sq
(rg [aM 23 3,
aO 24 (.nck (aT 23)),
aL 25 24,
aK 26 .add 25 1,
aO 27 (.nck (aT 23)),
aZ (.st 1 (aT 27) (aT 26))] [1, 2])
(sq
(rg [aM 28 2,
aM 29 1,
aM 10 28,
aM 11 29] [10, 11])
.ret))
.skip))
(sq
(rg [aM 30 1,
aM 31 2,
aM 10 30,
aM 11 31] [10, 11])
.ret))⟩
def pf210 : PFn := ⟨11, 2, [.tmp 4, .tmp 5], sq
(rg [aO 3 (.boxp 75 (aT 1)),
aC 4 0,
aU 5 false] [0, 3])
(sq
(rg [aM 6 0,
aN 7 4 3,
aO 8 (.call 212 .pure [(aT 6), (aT 7), (.val (.clo (.func 105) [] []))]),
aE 9 0 8,
aE 10 1 8,
aM 4 9,
aM 5 10] [4, 5])
.ret)⟩
def pf211 : PFn := ⟨28, 4, [.tmp 8, .tmp 9], sq
(rg [aC 8 0,
aC 9 0] [0, 1, 2, 3])
(sq
(sq
(rg [aM 10 0,
aM 11 2,
aI 12 1 10 11,
aL 13 12,
aM 14 0,
aM 15 1,
aI 16 1 14 15,
aL 17 16,
aP 18 191 [aT 13, aT 17]] [1, 2, 3, 18])
(cn 18
(sq
(rg [aM 19 3,
aO 20 (.nck (aT 19)),
aL 21 20,
aK 22 .add 21 1,
aO 23 (.nck (aT 19)),
aZ (.st 1 (aT 23) (aT 22))] [1, 2])
(sq
(rg [aM 24 2,
aM 25 1,
aM 8 24,
aM 9 25] [8, 9])
.ret))
.skip))
(sq
(rg [aM 26 1,
aM 27 2,
aM 8 26,
aM 9 27] [8, 9])
.ret))⟩
def pf212 : PFn := ⟨49, 3, [.tmp 6, .tmp 7], sq
(rg [aO 4 (.boxp 75 (aT 1)),
aC 6 0,
aU 7 false] [0, 2, 4])
(sq
(rg [aM 12 0,
aG 13 12,
aM 8 13] [0, 2, 4, 8])
(sq
(rg [aM 14 8,
aC 9 0,
aM 10 14] [0, 2, 4, 8, 9, 10])
(sq
(.blk 0 (.loop (sq
(sq
(rg [aM 15 9,
aM 16 10,
aB 17 .lss 15 16] [0, 2, 4, 8, 9, 10, 17])
(cn 17
.skip
(.ext 0)))
(.blk 1 (sq
(rg [aM 18 9,
aM 19 10,
aB 20 .add 18 19,
aO 21 (.conv .u64 (aT 20)),
aO 22 (.bin .shr (aT 21) (.val (.int .u64 1))),
aO 23 (.conv .i64 (aT 22)),
aM 11 23] [0, 2, 4, 8, 9, 10, 11])
(sq
(rg [aM 24 2,
aM 25 0,
aM 26 11,
aI 27 4 25 26,
aN 28 4 27,
aN 29 4 4,
aO 30 (.callv (aT 24) .pure [(aT 28), (aT 29)]),
aK 31 .lss 30 0] [0, 2, 4, 8, 9, 10, 11, 31])
(cn 31
(rg [aM 32 11,
aK 33 .add 32 1,
aM 9 33] [0, 2, 4, 8, 9, 10])
(rg [aM 34 11,
aM 10 34] [0, 2, 4, 8, 9, 10]))))))))
(sq
(rg [aM 35 9,
aM 36 9,
aM 37 8,
aB 38 .lss 36 37,
aM 39 38,
bM 40 39 true 2,
bM 41 39 true 0,
bM 42 39 true 9,
bO 43 39 true (.iaS 4 (aT 41) (aT 42)),
bN 44 39 true 4 43,
bN 45 39 true 4 4,
bO 46 39 true (.callv (aT 40) .pure [(aT 44), (aT 45)]),
bO 47 39 true (.bin .eql (aT 46) (cI 0)),
aO 48 (.pick (aT 39) (aT 47) (.val (.bool false))),
aM 6 35,
aM 7 48] [6, 7])
.ret))))⟩
end Go.Proofs.YtiaeckidlmoohaaGreat
