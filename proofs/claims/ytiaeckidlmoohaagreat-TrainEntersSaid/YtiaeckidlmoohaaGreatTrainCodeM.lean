/- PCode of functions, written by wip/tools/gen.py out of the loaded functions' print. -/
import Derived.Test.YtiaeckidlmoohaaGreatPmTwentyFive
import Derived.Test.YtiaeckidlmoohaaGreatPmTwentySeven
import Derived.Test.YtiaeckidlmoohaaGreatProg
import Derived.KernelRfl
import Derived.Test.YtiaeckidlmoohaaGreatTrainAbb
set_option maxRecDepth 100000
namespace Go.Proofs.YtiaeckidlmoohaaGreat
open Go.Proofs.YtiaeckidlmoohaaGreat.PM
def pf15 : PFn := ⟨39, 3, [.tmp 6], sq
(rg [aO 3 (.boxp 30 (aT 0)),
aO 5 (.boxp 54 (aT 2)),
aU 6 false] [1, 3, 5])
(sq
(sq
(rg [aN 11 7 3,
aO 12 (.call 19 .pure [(aT 11), (.val (.list .nil 1 []))])] [1, 3, 5, 12])
(cn 12
(sq
(rg [aP 13 20 [],
aM 6 13] [6])
.ret)
.skip))
(sq
(rg [aN 15 7 3,
aM 16 1,
aN 17 3 5,
aP 18 45 [aT 15, aT 16, aT 17],
aM 14 18,
aE 19 0 14,
aE 20 1 14,
aO 7 (.zer 30 (.agg [(iP 0), (iP 0), (.list .nil 1 []), (.list .nil 1 []), (.list .nil 4 []), (.list .nil 6 []), (.list .nil 5 [])])),
aZ (.st 7 (aT 7) (aT 19)),
aM 8 20] [1, 3, 5, 7, 8])
(sq
(rg [aN 22 7 3,
aM 23 1,
aN 24 3 5,
aP 25 46 [aT 22, aT 23, aT 24],
aM 21 25,
aE 26 0 21,
aE 27 1 21,
aO 9 (.zer 30 (.agg [(iP 0), (iP 0), (.list .nil 1 []), (.list .nil 1 []), (.list .nil 4 []), (.list .nil 6 []), (.list .nil 5 [])])),
aZ (.st 7 (aT 9) (aT 26)),
aM 10 27] [7, 8, 9, 10])
(sq
(rg [aM 28 8,
aM 29 10,
aB 30 .eql 28 29,
aM 31 30,
bN 32 31 true 7 7,
bN 33 31 true 7 9,
bO 34 31 true (.call 27 .pure [(aT 32), (aT 33)]),
aO 35 (.pick (aT 31) (aT 34) (.val (.bool false))),
aM 36 35,
bO 37 36 true (.call 20 .pure []),
aO 38 (.pick (aT 36) (aT 37) (.val (.bool false))),
aM 6 38] [6])
.ret))))⟩
def pf19 : PFn := ⟨57, 2, [.tmp 4], sq
(rg [aO 2 (.boxp 30 (aT 0)),
aU 4 false] [1, 2])
(sq
(rg [aF 10 0 2,
aF 11 2 10,
aL 12 11,
aG 13 12,
aF 14 0 2,
aF 15 3 14,
aL 16 15,
aG 17 16,
aF 18 4 2,
aL 19 18,
aG 20 19,
aF 21 5 2,
aL 22 21,
aG 23 22,
aF 24 6 2,
aL 25 24,
aG 26 25,
aO 27 (.mx (aT 13) [(aT 17), (aT 20), (aT 23), (aT 26)]),
aM 5 27] [1, 2, 5])
(sq
(sq
(rg [aF 28 6 2,
aL 29 28,
aG 30 29,
aC 31 0] [1, 5, 29, 30, 31])
(.blk 0 (.loop (.trim (sq
(rg [aB 32 .lss 31 30] [1, 5, 29, 30, 31, 32])
(sq
(cn 32
.skip
(.ext 0))
(sq
(.blk 1 (sq
(rg [aI 33 5 29 31,
aN 34 5 33,
aO 7 (.zer 68 (.agg [(iP 0), (iP 0), (iP 0), (.list .nil 3 []), (.list .nil 3 [])])),
aZ (.st 5 (aT 7) (aT 34))] [1, 5, 7, 29, 30, 31])
(rg [aM 35 5,
aF 36 3 7,
aL 37 36,
aG 38 37,
aF 39 4 7,
aL 40 39,
aG 41 40,
aO 42 (.mx (aT 35) [(aT 38), (aT 41)]),
aM 5 42] [1, 5, 29, 30, 31])))
(rg [aK 43 .add 31 1,
aM 31 43] [1, 5, 29, 30, 31]))))))))
(sq
(sq
(rg [aM 44 1,
aG 45 44,
aC 46 0] [5, 44, 45, 46])
(.blk 2 (.loop (sq
(rg [aB 47 .lss 46 45] [5, 44, 45, 46, 47])
(sq
(cn 47
.skip
(.ext 2))
(sq
(.blk 3 (sq
(rg [aI 48 1 44 46,
aL 49 48,
aM 9 49] [5, 9, 44, 45, 46])
(rg [aM 50 5,
aM 51 9,
aG 52 51,
aO 53 (.mx (aT 50) [(aT 52)]),
aM 5 53] [5, 44, 45, 46])))
(rg [aK 54 .add 46 1,
aM 46 54] [5, 44, 45, 46])))))))
(sq
(rg [aM 55 5,
aK 56 .gtr 55 1100,
aM 4 56] [4])
.ret))))⟩
def pf22 : PFn := ⟨149, 1, [.tmp 2], sq
(rg [aO 1 (.boxp 30 (aT 0)),
aC 2 0] [1])
(sq
(sq
(rg [aF 15 0 1,
aN 16 4 15,
aP 17 62 [aT 16],
aM 3 17] [1, 3])
(sq
(rg [aM 18 3,
aK 19 .neq 18 0] [1, 3, 19])
(cn 19
(sq
(rg [aM 20 3,
aM 2 20] [2])
.ret)
.skip)))
(sq
(sq
(rg [aF 21 0 1,
aN 22 4 21,
aF 23 4 1,
aL 24 23,
aP 25 63 [aT 22, aT 24],
aM 4 25] [1, 4])
(sq
(rg [aM 26 4,
aK 27 .neq 26 0] [1, 4, 27])
(cn 27
(sq
(rg [aM 28 4,
aM 2 28] [2])
.ret)
.skip)))
(sq
(sq
(rg [aF 29 5 1,
aL 30 29,
aG 31 30,
aK 32 .gtr 31 80,
aM 33 32,
bF 34 33 false 6 1,
bL 35 33 false 34,
bO 36 33 false (.len (aT 35)),
bO 37 33 false (.bin .gtr (aT 36) (cI 60)),
aO 38 (.pick (aT 33) (.val (.bool true)) (aT 37))] [1, 38])
(cn 38
(sq
(rg [aC 2 4] [2])
.ret)
.skip))
(sq
(sq
(rg [aF 39 5 1,
aL 40 39,
aP 41 64 [aT 40],
aO 42 (.un .not (aT 41))] [1, 42])
(cn 42
(sq
(rg [aC 2 1] [2])
.ret)
.skip))
(sq
(sq
(rg [aF 43 6 1,
aL 44 43,
aG 45 44,
aC 46 0] [1, 44, 45, 46])
(.blk 0 (.loop (.trim (sq
(rg [aB 47 .lss 46 45] [1, 44, 45, 46, 47])
(sq
(cn 47
.skip
(.ext 0))
(sq
(.blk 1 (sq
(rg [aI 48 5 44 46,
aN 49 5 48,
aO 6 (.zer 68 (.agg [(iP 0), (iP 0), (iP 0), (.list .nil 3 []), (.list .nil 3 [])])),
aZ (.st 5 (aT 6) (aT 49))] [1, 6, 44, 45, 46])
(sq
(rg [aF 50 0 6,
aL 51 50,
aP 52 65 [aT 51, (cI 1), (cI 20)],
aO 53 (.un .not (aT 52)),
aM 54 53,
bF 55 54 false 1 6,
bL 56 54 false 55,
bO 57 54 false (.call 65 .pure [(aT 56), (cI 0), (cI 192)]),
bO 58 54 false (.un .not (aT 57)),
aO 59 (.pick (aT 54) (.val (.bool true)) (aT 58)),
aM 60 59,
bF 61 60 false 2 6,
bL 62 60 false 61,
bO 63 60 false (.call 65 .pure [(aT 62), (cI 0), (cI 191)]),
bO 64 60 false (.un .not (aT 63)),
aO 65 (.pick (aT 60) (.val (.bool true)) (aT 64)),
aM 66 65,
bF 67 66 false 3 6,
bL 68 66 false 67,
bO 69 66 false (.len (aT 68)),
bF 70 66 false 0 6,
bL 71 66 false 70,
bO 72 66 false (.bin .gtr (aT 69) (aT 71)),
aO 73 (.pick (aT 66) (.val (.bool true)) (aT 72)),
aM 74 73,
bF 75 74 false 4 6,
bL 76 74 false 75,
bO 77 74 false (.len (aT 76)),
bO 78 74 false (.bin .gtr (aT 77) (cI 60)),
aO 79 (.pick (aT 74) (.val (.bool true)) (aT 78)),
aM 80 79,
bF 81 80 false 4 6,
bL 82 80 false 81,
bO 83 80 false (.len (aT 82)),
bO 84 80 false (.bin .gtr (aT 83) (cI 0)),
bM 85 80 false 84,
bF 86 85 true 3 6,
bL 87 85 true 86,
bO 88 85 true (.len (aT 87)),
bO 89 85 true (.bin .eql (aT 88) (cI 0)),
bO 90 80 false (.pick (aT 85) (aT 89) (.val (.bool false))),
aO 91 (.pick (aT 80) (.val (.bool true)) (aT 90))] [1, 44, 45, 46, 91])
(cn 91
(sq
(rg [aC 2 1] [2])
.ret)
.skip))))
(rg [aK 92 .add 46 1,
aM 46 92] [1, 44, 45, 46]))))))))
(sq
(sq
(rg [aF 93 5 1,
aL 94 93,
aG 95 94,
aC 96 0] [1, 94, 95, 96])
(.blk 2 (.loop (.trim (sq
(rg [aB 97 .lss 96 95] [1, 94, 95, 96, 97])
(sq
(cn 97
.skip
(.ext 2))
(sq
(.blk 3 (sq
(rg [aI 98 6 94 96,
aN 99 6 98,
aO 8 (.zer 78 (.agg [(iP 0), (iP 0), (iP 0), (iP 0), (iP 0), (iP 0)])),
aZ (.st 6 (aT 8) (aT 99))] [1, 8, 94, 95, 96])
(sq
(rg [aF 100 0 1,
aN 101 4 100,
aF 102 0 8,
aN 103 3 102,
aP 104 66 [aT 101, aT 103],
aO 105 (.un .not (aT 104)),
aM 106 105,
bF 107 106 false 0 1,
bN 108 106 false 4 107,
bF 109 106 false 3 8,
bN 110 106 false 3 109,
bO 111 106 false (.call 66 .pure [(aT 108), (aT 110)]),
bO 112 106 false (.un .not (aT 111)),
aO 113 (.pick (aT 106) (.val (.bool true)) (aT 112))] [1, 94, 95, 96, 113])
(cn 113
(sq
(rg [aC 2 2] [2])
.ret)
.skip))))
(rg [aK 114 .add 96 1,
aM 96 114] [1, 94, 95, 96]))))))))
(sq
(sq
(rg [aF 115 6 1,
aL 116 115,
aG 117 116,
aC 118 0] [1, 116, 117, 118])
(.blk 4 (.loop (.trim (sq
(rg [aB 119 .lss 118 117] [1, 116, 117, 118, 119])
(sq
(cn 119
.skip
(.ext 4))
(sq
(.blk 5 (sq
(rg [aI 120 5 116 118,
aN 121 5 120,
aO 10 (.zer 68 (.agg [(iP 0), (iP 0), (iP 0), (.list .nil 3 []), (.list .nil 3 [])])),
aZ (.st 5 (aT 10) (aT 121))] [1, 10, 116, 117, 118])
(sq
(rg [aN 122 5 10,
aP 123 67 [aT 122],
aG 124 123,
aC 125 0] [1, 116, 117, 118, 123, 124, 125])
(.blk 6 (.loop (.trim (sq
(rg [aB 126 .lss 125 124] [1, 116, 117, 118, 123, 124, 125, 126])
(sq
(cn 126
.skip
(.ext 6))
(sq
(.blk 7 (sq
(rg [aI 127 3 123 125,
aN 128 3 127,
aO 12 (.zer 54 (.agg [(iP 0), (iP 0), (iP 0)])),
aZ (.st 3 (aT 12) (aT 128))] [1, 12, 116, 117, 118, 123, 124, 125])
(sq
(rg [aF 129 0 1,
aN 130 4 129,
aN 131 3 12,
aP 132 66 [aT 130, aT 131],
aO 133 (.un .not (aT 132))] [1, 116, 117, 118, 123, 124, 125, 133])
(cn 133
(sq
(rg [aC 2 2] [2])
.ret)
.skip))))
(rg [aK 134 .add 125 1,
aM 125 134] [1, 116, 117, 118, 123, 124, 125]))))))))))
(rg [aK 135 .add 118 1,
aM 118 135] [1, 116, 117, 118]))))))))
(sq
(sq
(rg [aF 136 6 1,
aL 137 136,
aG 138 137,
aC 139 0] [1, 137, 138, 139])
(.blk 8 (.loop (.trim (sq
(rg [aB 140 .lss 139 138] [1, 137, 138, 139, 140])
(sq
(cn 140
.skip
(.ext 8))
(sq
(.blk 9 (sq
(rg [aI 141 5 137 139,
aN 142 5 141,
aO 14 (.zer 68 (.agg [(iP 0), (iP 0), (iP 0), (.list .nil 3 []), (.list .nil 3 [])])),
aZ (.st 5 (aT 14) (aT 142))] [1, 14, 137, 138, 139])
(sq
(rg [aN 143 7 1,
aN 144 5 14,
aP 145 67 [aT 144],
aP 146 68 [aT 143, aT 145],
aO 147 (.un .not (aT 146))] [1, 137, 138, 139, 147])
(cn 147
(sq
(rg [aC 2 8] [2])
.ret)
.skip))))
(rg [aK 148 .add 139 1,
aM 139 148] [1, 137, 138, 139]))))))))
(sq
(rg [aC 2 0] [2])
.ret)))))))))⟩
def pf27 : PFn := ⟨56, 2, [.tmp 4], sq
(rg [aO 2 (.boxp 30 (aT 0)),
aO 3 (.boxp 30 (aT 1)),
aU 4 false] [2, 3])
(sq
(sq
(rg [aF 6 0 2,
aN 7 4 6,
aF 8 0 3,
aN 9 4 8,
aP 10 50 [aT 7, aT 9],
aO 11 (.un .not (aT 10)),
aM 12 11,
bF 13 12 false 4 2,
bL 14 12 false 13,
bF 15 12 false 4 3,
bL 16 12 false 15,
bO 17 12 false (.call 51 .pure [(aT 14), (aT 16)]),
bO 18 12 false (.un .not (aT 17)),
aO 19 (.pick (aT 12) (.val (.bool true)) (aT 18)),
aM 20 19,
bF 21 20 false 5 2,
bL 22 20 false 21,
bF 23 20 false 5 3,
bL 24 20 false 23,
bO 25 20 false (.call 52 .pure [(aT 22), (aT 24)]),
bO 26 20 false (.un .not (aT 25)),
aO 27 (.pick (aT 20) (.val (.bool true)) (aT 26)),
aM 28 27,
bF 29 28 false 6 2,
bL 30 28 false 29,
bO 31 28 false (.len (aT 30)),
bF 32 28 false 6 3,
bL 33 28 false 32,
bO 34 28 false (.len (aT 33)),
bO 35 28 false (.bin .neq (aT 31) (aT 34)),
aO 36 (.pick (aT 28) (.val (.bool true)) (aT 35))] [2, 3, 36])
(cn 36
(sq
(rg [aU 4 false] [4])
.ret)
.skip))
(sq
(sq
(rg [aF 37 6 2,
aL 38 37,
aG 39 38,
aC 40 0] [2, 3, 39, 40])
(.blk 0 (.loop (sq
(rg [aB 41 .lss 40 39] [2, 3, 39, 40, 41])
(sq
(cn 41
.skip
(.ext 0))
(sq
(.blk 1 (sq
(rg [aM 42 40,
aM 5 42] [2, 3, 5, 39, 40])
(sq
(rg [aF 43 6 2,
aL 44 43,
aM 45 5,
aI 46 5 44 45,
aN 47 5 46,
aF 48 6 3,
aL 49 48,
aM 50 5,
aI 51 5 49 50,
aN 52 5 51,
aP 53 83 [aT 47, aT 52],
aO 54 (.un .not (aT 53))] [2, 3, 39, 40, 54])
(cn 54
(sq
(rg [aU 4 false] [4])
.ret)
.skip))))
(rg [aK 55 .add 40 1,
aM 40 55] [2, 3, 39, 40])))))))
(sq
(rg [aU 4 true] [4])
.ret)))⟩
def pf38 : PFn := ⟨26, 2, [.tmp 4], sq
(rg [aU 4 false] [0, 1])
(sq
(sq
(rg [aM 6 0,
aG 7 6,
aM 8 1,
aG 9 8,
aB 10 .neq 7 9] [0, 1, 10])
(cn 10
(sq
(rg [aU 4 false] [4])
.ret)
.skip))
(sq
(sq
(rg [aC 5 0] [0, 1, 5])
(.blk 0 (.loop (sq
(sq
(rg [aM 11 5,
aM 12 0,
aG 13 12,
aB 14 .lss 11 13] [0, 1, 5, 14])
(cn 14
.skip
(.ext 0)))
(sq
(.blk 1 (sq
(rg [aM 17 0,
aM 18 5,
aI 19 3 17 18,
aN 20 3 19,
aM 21 1,
aM 22 5,
aI 23 3 21 22,
aN 24 3 23,
aO 25 (.eqs true [true, true, true] (aT 20) (aT 24))] [0, 1, 5, 25])
(cn 25
(sq
(rg [aU 4 false] [4])
.ret)
.skip)))
(rg [aM 15 5,
aK 16 .add 15 1,
aM 5 16] [0, 1, 5]))))))
(sq
(rg [aU 4 true] [4])
.ret)))⟩
def pf45 : PFn := ⟨74, 3, [.cell 6 (some 7), .tmp 7], sq
(rg [aO 3 (.boxp 30 (aT 0)),
aO 5 (.boxp 54 (aT 2)),
aO 6 (.zer 30 (.agg [(iP 0), (iP 0), (.list .nil 1 []), (.list .nil 1 []), (.list .nil 4 []), (.list .nil 6 []), (.list .nil 5 [])])),
aC 7 0] [1, 3, 5, 6])
(sq
(sq
(rg [aN 12 7 3,
aM 13 1,
aP 14 75 [aT 12, aT 13],
aM 8 14] [1, 3, 5, 6, 8])
(sq
(rg [aM 15 8,
aK 16 .neq 15 0] [1, 3, 5, 6, 8, 16])
(cn 16
(sq
(rg [aO 17 (.bld [(iP 0), (iP 0), (.list .nil 1 []), (.list .nil 1 []), (.list .nil 4 []), (.list .nil 6 []), (.list .nil 5 [])] []),
aM 18 8,
aZ (.st 7 (aT 6) (aT 17)),
aM 7 18] [6, 7])
.ret)
.skip)))
(sq
(sq
(rg [aF 19 6 3,
aL 20 19,
aM 21 1,
aI 22 5 20 21,
aF 23 3 22,
aL 24 23,
aG 25 24,
aK 26 .gtr 25 0] [1, 3, 5, 6, 26])
(cn 26
(sq
(rg [aO 27 (.bld [(iP 0), (iP 0), (.list .nil 1 []), (.list .nil 1 []), (.list .nil 4 []), (.list .nil 6 []), (.list .nil 5 [])] []),
aZ (.st 7 (aT 6) (aT 27)),
aC 7 13] [6, 7])
.ret)
.skip))
(sq
(sq
(rg [aF 28 0 3,
aN 29 4 28,
aN 30 3 5,
aP 31 58 [aT 29, aT 30],
aO 32 (.un .not (aT 31))] [1, 3, 5, 6, 32])
(cn 32
(sq
(rg [aO 33 (.bld [(iP 0), (iP 0), (.list .nil 1 []), (.list .nil 1 []), (.list .nil 4 []), (.list .nil 6 []), (.list .nil 5 [])] []),
aZ (.st 7 (aT 6) (aT 33)),
aC 7 2] [6, 7])
.ret)
.skip))
(sq
(rg [aN 34 7 3,
aP 35 60 [aT 34],
aO 9 (.zer 90 (.agg [(iP 0), (iP 0), (.list .nil 1 []), (.list .nil 1 []), (.list .nil 4 []), (.list .nil 6 []), (.list .nil 5 []), .nilmap, .nilmap])),
aZ (.st 9 (aT 9) (aT 35))] [1, 3, 5, 6, 9])
(sq
(rg [aN 36 7 3,
aP 37 97 [aT 36],
aM 10 37] [1, 3, 5, 6, 9, 10])
(sq
(sq
(rg [aN 38 9 9,
aM 39 1,
aP 40 69 [aT 38, aT 39],
aN 41 3 5,
aP 42 72 [aT 40, aT 41],
aM 43 42,
bN 44 43 false 9 9,
bM 45 43 false 1,
bM 46 43 false 10,
bO 47 43 false (.call 98 .pure [(aT 44), (aT 45), (aT 46)]),
bM 48 43 false 10,
bF 49 43 false 0 5,
bL 50 43 false 49,
bF 51 43 false 1 5,
bL 52 43 false 51,
bO 53 43 false (.bld [(iP 0), (iP 0)] [(0, 1, (aT 50)), (1, 1, (aT 52))]),
bO 54 43 false (.mlk (some 2) (iP 0) false (aT 48) (aT 53)),
bO 55 43 false (.call 79 .pure [(aT 47), (aT 54)]),
aO 56 (.pick (aT 43) (.val (.bool true)) (aT 55))] [1, 3, 5, 6, 56])
(cn 56
(sq
(rg [aO 57 (.bld [(iP 0), (iP 0), (.list .nil 1 []), (.list .nil 1 []), (.list .nil 4 []), (.list .nil 6 []), (.list .nil 5 [])] []),
aZ (.st 7 (aT 6) (aT 57)),
aC 7 7] [6, 7])
.ret)
.skip))
(sq
(rg [aN 58 7 3,
aO 59 (.call 76 .opn [(aT 58)]),
aO 11 (.zer 30 (.agg [(iP 0), (iP 0), (.list .nil 1 []), (.list .nil 1 []), (.list .nil 4 []), (.list .nil 6 []), (.list .nil 5 [])])),
aZ (.st 7 (aT 11) (aT 59))] [1, 3, 5, 6, 11])
(sq
(rg [aF 60 6 11,
aL 61 60,
aM 62 1,
aF 63 6 3,
aL 64 63,
aM 65 1,
aI 66 5 64 65,
aF 67 0 66,
aL 68 67,
aN 69 3 5,
aO 70 (.bsl 1 3 [(iP 0), (iP 0), (iP 0)] [(0, 3, (aT 69))]),
aO 71 (.bld [(iP 0), (iP 0), (iP 0), (.list .nil 3 []), (.list .nil 3 [])] [(0, 1, (aT 68)), (3, 1, (aT 70))]),
aI 72 5 61 62,
aZ (.st 5 (aT 72) (aT 71))] [6, 11])
(sq
(rg [aN 73 7 11,
aZ (.st 7 (aT 6) (aT 73)),
aC 7 0] [6, 7])
.ret)))))))))⟩
def pf46 : PFn := ⟨74, 3, [.cell 6 (some 7), .tmp 7], sq
(rg [aO 3 (.boxp 30 (aT 0)),
aO 5 (.boxp 54 (aT 2)),
aO 6 (.zer 30 (.agg [(iP 0), (iP 0), (.list .nil 1 []), (.list .nil 1 []), (.list .nil 4 []), (.list .nil 6 []), (.list .nil 5 [])])),
aC 7 0] [1, 3, 5, 6])
(sq
(sq
(rg [aN 13 7 3,
aM 14 1,
aP 15 80 [aT 13, aT 14],
aM 8 15] [1, 3, 5, 6, 8])
(sq
(rg [aM 16 8,
aK 17 .neq 16 0] [1, 3, 5, 6, 8, 17])
(cn 17
(sq
(rg [aO 18 (.bld [(iP 0), (iP 0), (.list .nil 1 []), (.list .nil 1 []), (.list .nil 4 []), (.list .nil 6 []), (.list .nil 5 [])] []),
aM 19 8,
aZ (.st 7 (aT 6) (aT 18)),
aM 7 19] [6, 7])
.ret)
.skip)))
(sq
(sq
(rg [aF 20 6 3,
aL 21 20,
aM 22 1,
aI 23 5 21 22,
aF 24 3 23,
aL 25 24,
aG 26 25,
aK 27 .gtr 26 0] [1, 3, 5, 6, 27])
(cn 27
(sq
(rg [aO 28 (.bld [(iP 0), (iP 0), (.list .nil 1 []), (.list .nil 1 []), (.list .nil 4 []), (.list .nil 6 []), (.list .nil 5 [])] []),
aZ (.st 7 (aT 6) (aT 28)),
aC 7 13] [6, 7])
.ret)
.skip))
(sq
(sq
(rg [aF 29 0 3,
aN 30 4 29,
aN 31 3 5,
aP 32 66 [aT 30, aT 31],
aO 33 (.un .not (aT 32))] [1, 3, 5, 6, 33])
(cn 33
(sq
(rg [aO 34 (.bld [(iP 0), (iP 0), (.list .nil 1 []), (.list .nil 1 []), (.list .nil 4 []), (.list .nil 6 []), (.list .nil 5 [])] []),
aZ (.st 7 (aT 6) (aT 34)),
aC 7 2] [6, 7])
.ret)
.skip))
(sq
(rg [aN 35 7 3,
aM 36 1,
aP 37 73 [aT 35, aT 36],
aM 9 37] [1, 3, 5, 6, 9])
(sq
(rg [aF 39 0 3,
aN 40 4 39,
aF 41 4 3,
aL 42 41,
aP 43 99 [aT 40, aT 42],
aM 38 43,
aE 44 0 38,
aE 45 1 38,
aM 10 44,
aM 11 45] [1, 3, 5, 6, 9, 10])
(sq
(sq
(rg [aN 46 3 5,
aM 47 9,
aP 48 74 [aT 46, aT 47],
aM 49 48,
bM 50 49 false 10,
bM 51 49 false 9,
bM 52 49 false 10,
bN 53 49 false 3 5,
bO 54 49 false (.call 101 .pure [(aT 52), (aT 53)]),
bO 55 49 false (.call 100 .pure [(aT 50), (aT 51), (aT 54)]),
aO 56 (.pick (aT 49) (.val (.bool true)) (aT 55))] [1, 3, 5, 6, 56])
(cn 56
(sq
(rg [aO 57 (.bld [(iP 0), (iP 0), (.list .nil 1 []), (.list .nil 1 []), (.list .nil 4 []), (.list .nil 6 []), (.list .nil 5 [])] []),
aZ (.st 7 (aT 6) (aT 57)),
aC 7 7] [6, 7])
.ret)
.skip))
(sq
(rg [aN 58 7 3,
aO 59 (.call 81 .opn [(aT 58)]),
aO 12 (.zer 30 (.agg [(iP 0), (iP 0), (.list .nil 1 []), (.list .nil 1 []), (.list .nil 4 []), (.list .nil 6 []), (.list .nil 5 [])])),
aZ (.st 7 (aT 12) (aT 59))] [1, 3, 5, 6, 12])
(sq
(rg [aF 60 6 12,
aL 61 60,
aM 62 1,
aF 63 6 3,
aL 64 63,
aM 65 1,
aI 66 5 64 65,
aF 67 0 66,
aL 68 67,
aN 69 3 5,
aO 70 (.bsl 1 3 [(iP 0), (iP 0), (iP 0)] [(0, 3, (aT 69))]),
aO 71 (.bld [(iP 0), (iP 0), (iP 0), (.list .nil 3 []), (.list .nil 3 [])] [(0, 1, (aT 68)), (3, 1, (aT 70))]),
aI 72 5 61 62,
aZ (.st 5 (aT 72) (aT 71))] [6, 12])
(sq
(rg [aN 73 7 12,
aZ (.st 7 (aT 6) (aT 73)),
aC 7 0] [6, 7])
.ret)))))))))⟩
def pf50 : PFn := ⟨31, 2, [.tmp 4], sq
(rg [aO 2 (.boxp 25 (aT 0)),
aO 3 (.boxp 25 (aT 1)),
aU 4 false] [2, 3])
(sq
(rg [aF 5 0 2,
aL 6 5,
aF 7 0 3,
aL 8 7,
aB 9 .eql 6 8,
aM 10 9,
bF 11 10 true 1 2,
bL 12 10 true 11,
bF 13 10 true 1 3,
bL 14 10 true 13,
bO 15 10 true (.bin .eql (aT 12) (aT 14)),
aO 16 (.pick (aT 10) (aT 15) (.val (.bool false))),
aM 17 16,
bF 18 17 true 2 2,
bL 19 17 true 18,
bF 20 17 true 2 3,
bL 21 17 true 20,
bO 22 17 true (.call 30 .pure [(aT 19), (aT 21)]),
aO 23 (.pick (aT 17) (aT 22) (.val (.bool false))),
aM 24 23,
bF 25 24 true 3 2,
bL 26 24 true 25,
bF 27 24 true 3 3,
bL 28 24 true 27,
bO 29 24 true (.call 103 .pure [(aT 26), (aT 28)]),
aO 30 (.pick (aT 24) (aT 29) (.val (.bool false))),
aM 4 30] [4])
.ret)⟩
def pf51 : PFn := ⟨26, 2, [.tmp 4], sq
(rg [aU 4 false] [0, 1])
(sq
(sq
(rg [aM 6 0,
aG 7 6,
aM 8 1,
aG 9 8,
aB 10 .neq 7 9] [0, 1, 10])
(cn 10
(sq
(rg [aU 4 false] [4])
.ret)
.skip))
(sq
(sq
(rg [aC 5 0] [0, 1, 5])
(.blk 0 (.loop (sq
(sq
(rg [aM 11 5,
aM 12 0,
aG 13 12,
aB 14 .lss 11 13] [0, 1, 5, 14])
(cn 14
.skip
(.ext 0)))
(sq
(.blk 1 (sq
(rg [aM 17 0,
aM 18 5,
aI 19 4 17 18,
aN 20 4 19,
aM 21 1,
aM 22 5,
aI 23 4 21 22,
aN 24 4 23,
aO 25 (.eqs true [true, true, true, true] (aT 20) (aT 24))] [0, 1, 5, 25])
(cn 25
(sq
(rg [aU 4 false] [4])
.ret)
.skip)))
(rg [aM 15 5,
aK 16 .add 15 1,
aM 5 16] [0, 1, 5]))))))
(sq
(rg [aU 4 true] [4])
.ret)))⟩
def pf52 : PFn := ⟨26, 2, [.tmp 4], sq
(rg [aU 4 false] [0, 1])
(sq
(sq
(rg [aM 6 0,
aG 7 6,
aM 8 1,
aG 9 8,
aB 10 .neq 7 9] [0, 1, 10])
(cn 10
(sq
(rg [aU 4 false] [4])
.ret)
.skip))
(sq
(sq
(rg [aC 5 0] [0, 1, 5])
(.blk 0 (.loop (sq
(sq
(rg [aM 11 5,
aM 12 0,
aG 13 12,
aB 14 .lss 11 13] [0, 1, 5, 14])
(cn 14
.skip
(.ext 0)))
(sq
(.blk 1 (sq
(rg [aM 17 0,
aM 18 5,
aI 19 6 17 18,
aN 20 6 19,
aM 21 1,
aM 22 5,
aI 23 6 21 22,
aN 24 6 23,
aO 25 (.eqs true [true, true, true, true, true, true] (aT 20) (aT 24))] [0, 1, 5, 25])
(cn 25
(sq
(rg [aU 4 false] [4])
.ret)
.skip)))
(rg [aM 15 5,
aK 16 .add 15 1,
aM 5 16] [0, 1, 5]))))))
(sq
(rg [aU 4 true] [4])
.ret)))⟩
def pf62 : PFn := ⟨80, 1, [.tmp 2], sq
(rg [aO 1 (.boxp 25 (aT 0)),
aC 2 0] [1])
(sq
(sq
(rg [aF 4 0 1,
aL 5 4,
aK 6 .lss 5 4,
aM 7 6,
bF 8 7 false 0 1,
bL 9 7 false 8,
bO 10 7 false (.bin .gtr (aT 9) (cI 32)),
aO 11 (.pick (aT 7) (.val (.bool true)) (aT 10)),
aM 12 11,
bF 13 12 false 1 1,
bL 14 12 false 13,
bO 15 12 false (.bin .lss (aT 14) (cI 4)),
aO 16 (.pick (aT 12) (.val (.bool true)) (aT 15)),
aM 17 16,
bF 18 17 false 1 1,
bL 19 17 false 18,
bO 20 17 false (.bin .gtr (aT 19) (cI 32)),
aO 21 (.pick (aT 17) (.val (.bool true)) (aT 20)),
aM 22 21,
bF 23 22 false 2 1,
bL 24 22 false 23,
bO 25 22 false (.len (aT 24)),
bF 26 22 false 0 1,
bL 27 22 false 26,
bF 28 22 false 1 1,
bL 29 22 false 28,
bO 30 22 false (.bin .mul (aT 27) (aT 29)),
bO 31 22 false (.bin .neq (aT 25) (aT 30)),
aO 32 (.pick (aT 22) (.val (.bool true)) (aT 31)),
aM 33 32,
bF 34 33 false 3 1,
bL 35 33 false 34,
bO 36 33 false (.len (aT 35)),
bF 37 33 false 0 1,
bL 38 33 false 37,
bF 39 33 false 1 1,
bL 40 33 false 39,
bO 41 33 false (.bin .mul (aT 38) (aT 40)),
bO 42 33 false (.bin .neq (aT 36) (aT 41)),
aO 43 (.pick (aT 33) (.val (.bool true)) (aT 42))] [1, 43])
(cn 43
(sq
(rg [aC 2 1] [2])
.ret)
.skip))
(sq
(sq
(rg [aC 3 0] [1, 3])
(.blk 0 (.loop (sq
(sq
(rg [aM 44 3,
aF 45 2 1,
aL 46 45,
aG 47 46,
aB 48 .lss 44 47] [1, 3, 48])
(cn 48
.skip
(.ext 0)))
(sq
(.blk 1 (sq
(rg [aF 51 2 1,
aL 52 51,
aM 53 3,
aI 54 1 52 53,
aL 55 54,
aK 56 .lss 55 0,
aM 57 56,
bF 58 57 false 2 1,
bL 59 57 false 58,
bM 60 57 false 3,
bO 61 57 false (.iaS 1 (aT 59) (aT 60)),
bL 62 57 false 61,
bO 63 57 false (.bin .gtr (aT 62) (cI 63)),
aO 64 (.pick (aT 57) (.val (.bool true)) (aT 63)),
aM 65 64,
bF 66 65 false 2 1,
bL 67 65 false 66,
bM 68 65 false 3,
bO 69 65 false (.iaS 1 (aT 67) (aT 68)),
bL 70 65 false 69,
bO 71 65 false (.bin .eql (aT 70) (cI 0)),
bM 72 65 false 71,
bF 73 72 true 3 1,
bL 74 72 true 73,
bM 75 72 true 3,
bO 76 72 true (.iaS 1 (aT 74) (aT 75)),
bL 77 72 true 76,
bO 78 65 false (.pick (aT 72) (aT 77) (.val (.bool false))),
aO 79 (.pick (aT 65) (.val (.bool true)) (aT 78))] [1, 3, 79])
(cn 79
(sq
(rg [aC 2 1] [2])
.ret)
.skip)))
(rg [aM 49 3,
aK 50 .add 49 1,
aM 3 50] [1, 3]))))))
(sq
(rg [aC 2 0] [2])
.ret)))⟩
def pf63 : PFn := ⟨86, 2, [.tmp 4], sq
(rg [aO 2 (.boxp 25 (aT 0)),
aC 4 0] [1, 2])
(sq
(sq
(rg [aN 8 4 2,
aP 9 62 [aT 8],
aM 5 9] [1, 2, 5])
(sq
(rg [aM 10 5,
aK 11 .neq 10 0] [1, 2, 5, 11])
(cn 11
(sq
(rg [aM 12 5,
aM 4 12] [4])
.ret)
.skip)))
(sq
(sq
(rg [aM 13 1,
aG 14 13,
aK 15 .gtr 14 300] [1, 2, 15])
(cn 15
(sq
(rg [aC 4 1] [4])
.ret)
.skip))
(sq
(sq
(rg [aC 6 0] [1, 2, 6])
(.blk 0 (.loop (sq
(sq
(rg [aM 16 6,
aM 17 1,
aG 18 17,
aB 19 .lss 16 18] [1, 2, 6, 19])
(cn 19
.skip
(.ext 0)))
(sq
(.blk 1 (sq
(rg [aM 22 1,
aM 23 6,
aI 24 4 22 23,
aF 25 3 24,
aL 26 25,
aK 27 .lss 26 0,
aM 28 27,
bM 29 28 false 1,
bM 30 28 false 6,
bO 31 28 false (.iaS 4 (aT 29) (aT 30)),
bF 32 28 false 3 31,
bL 33 28 false 32,
bO 34 28 false (.bin .gtr (aT 33) (cI 5)),
aO 35 (.pick (aT 28) (.val (.bool true)) (aT 34)),
aM 36 35,
bM 37 36 false 6,
bO 38 36 false (.bin .gtr (aT 37) (cI 0)),
bM 39 36 false 38,
bM 40 39 true 1,
bM 41 39 true 6,
bO 42 39 true (.bin .sub (aT 41) (cI 1)),
bO 43 39 true (.iaS 4 (aT 40) (aT 42)),
bN 44 39 true 4 43,
bM 45 39 true 1,
bM 46 39 true 6,
bO 47 39 true (.iaS 4 (aT 45) (aT 46)),
bN 48 39 true 4 47,
bO 49 39 true (.call 111 .pure [(aT 44), (aT 48)]),
bO 50 39 true (.un .not (aT 49)),
bO 51 36 false (.pick (aT 39) (aT 50) (.val (.bool false))),
aO 52 (.pick (aT 36) (.val (.bool true)) (aT 51))] [1, 2, 6, 52])
(cn 52
(sq
(rg [aC 4 1] [4])
.ret)
.skip)))
(rg [aM 20 6,
aK 21 .add 20 1,
aM 6 21] [1, 2, 6]))))))
(sq
(sq
(rg [aC 7 0] [1, 2, 7])
(.blk 2 (.loop (sq
(sq
(rg [aM 53 7,
aM 54 1,
aG 55 54,
aB 56 .lss 53 55] [1, 2, 7, 56])
(cn 56
.skip
(.ext 2)))
(sq
(.blk 3 (sq
(rg [aN 59 4 2,
aM 60 1,
aM 61 7,
aI 62 4 60 61,
aF 63 0 62,
aL 64 63,
aM 65 1,
aM 66 7,
aI 67 4 65 66,
aF 68 1 67,
aL 69 68,
aP 70 112 [aT 59, aT 64, aT 69],
aO 71 (.un .not (aT 70)),
aM 72 71,
bM 73 72 false 1,
bM 74 72 false 7,
bO 75 72 false (.iaS 4 (aT 73) (aT 74)),
bF 76 72 false 1 75,
bL 77 72 false 76,
bM 78 72 false 1,
bM 79 72 false 7,
bO 80 72 false (.iaS 4 (aT 78) (aT 79)),
bF 81 72 false 2 80,
bL 82 72 false 81,
bO 83 72 false (.call 113 .pure [(aT 77), (aT 82)]),
bO 84 72 false (.un .not (aT 83)),
aO 85 (.pick (aT 72) (.val (.bool true)) (aT 84))] [1, 2, 7, 85])
(cn 85
(sq
(rg [aC 4 2] [4])
.ret)
.skip)))
(rg [aM 57 7,
aK 58 .add 57 1,
aM 7 58] [1, 2, 7]))))))
(sq
(rg [aC 4 0] [4])
.ret)))))⟩
def pf64 : PFn := ⟨42, 1, [.tmp 2], sq
(rg [aU 2 false] [0])
(sq
(sq
(rg [aC 3 1] [0, 3])
(.blk 0 (.loop (.trim (sq
(sq
(rg [aM 6 3,
aM 7 0,
aG 8 7,
aB 9 .lss 6 8] [0, 3, 9])
(cn 9
.skip
(.ext 0)))
(sq
(.blk 1 (sq
(.reg [aM 12 0,
aM 13 3,
aK 14 .sub 13 1,
aI 15 6 12 14,
aN 16 6 15,
aM 17 0,
aM 18 3,
aI 19 6 17 18,
aN 20 6 19,
aO 4 (.zer 78 (.agg [(iP 0), (iP 0), (iP 0), (iP 0), (iP 0), (iP 0)])),
aO 5 (.zer 78 (.agg [(iP 0), (iP 0), (iP 0), (iP 0), (iP 0), (iP 0)])),
aZ (.st 6 (aT 4) (aT 16)),
aZ (.st 6 (aT 5) (aT 20))] [(4, 0), (8, 0), (8, 11), (8, 12)] [0, 3, 4, 5])
(sq
(rg [aF 21 0 4,
aN 22 3 21,
aF 23 0 5,
aN 24 3 23,
aP 25 114 [aT 22, aT 24],
aO 26 (.un .not (aT 25)),
aM 27 26,
bF 28 27 true 0 4,
bN 29 27 true 3 28,
bF 30 27 true 0 5,
bN 31 27 true 3 30,
bO 32 27 true (.eqs false [true, true, true] (aT 29) (aT 31)),
bM 33 27 true 32,
bF 34 33 true 3 4,
bN 35 33 true 3 34,
bF 36 33 true 3 5,
bN 37 33 true 3 36,
bO 38 33 true (.call 114 .pure [(aT 35), (aT 37)]),
bO 39 27 true (.pick (aT 33) (aT 38) (.val (.bool false))),
bO 40 27 true (.un .not (aT 39)),
aO 41 (.pick (aT 27) (aT 40) (.val (.bool false)))] [0, 3, 41])
(cn 41
(sq
(rg [aU 2 false] [2])
.ret)
.skip))))
(rg [aM 10 3,
aK 11 .add 10 1,
aM 3 11] [0, 3])))))))
(sq
(rg [aU 2 true] [2])
.ret))⟩
def pf65 : PFn := ⟨15, 3, [.tmp 6], sq
(rg [aU 6 false] [0, 1, 2])
(sq
(rg [aM 7 0,
aM 8 1,
aB 9 .geq 7 8,
aM 10 9,
bM 11 10 true 0,
bM 12 10 true 2,
bO 13 10 true (.bin .leq (aT 11) (aT 12)),
aO 14 (.pick (aT 10) (aT 13) (.val (.bool false))),
aM 6 14] [6])
.ret)⟩
def pf66 : PFn := ⟨43, 2, [.tmp 4], sq
(rg [aO 2 (.boxp 25 (aT 0)),
aO 3 (.boxp 54 (aT 1)),
aU 4 false] [2, 3])
(sq
(rg [aF 5 0 3,
aL 6 5,
aK 7 .geq 6 0,
aM 8 7,
bF 9 8 true 0 3,
bL 10 8 true 9,
bF 11 8 true 2 2,
bL 12 8 true 11,
bO 13 8 true (.len (aT 12)),
bO 14 8 true (.bin .lss (aT 10) (aT 13)),
aO 15 (.pick (aT 8) (aT 14) (.val (.bool false))),
aM 16 15,
bF 17 16 true 1 3,
bL 18 16 true 17,
bO 19 16 true (.call 65 .pure [(aT 18), (cI 0), (cI 5)]),
aO 20 (.pick (aT 16) (aT 19) (.val (.bool false))),
aM 21 20,
bF 22 21 true 2 2,
bL 23 21 true 22,
bF 24 21 true 0 3,
bL 25 21 true 24,
bO 26 21 true (.iaS 1 (aT 23) (aT 25)),
bL 27 21 true 26,
bF 28 21 true 1 3,
bL 29 21 true 28,
bO 30 21 true (.conv .u64 (aT 29)),
bO 31 21 true (.bin .shr (aT 27) (aT 30)),
bO 32 21 true (.bin .rem (aT 31) (cI 2)),
bO 33 21 true (.bin .eql (aT 32) (cI 1)),
aO 34 (.pick (aT 21) (aT 33) (.val (.bool false))),
aM 35 34,
bF 36 35 true 1 3,
bL 37 35 true 36,
bF 38 35 true 2 3,
bL 39 35 true 38,
bO 40 35 true (.call 92 .pure [(aT 37), (aT 39)]),
bO 41 35 true (.bin .geq (aT 40) (cI 0)),
aO 42 (.pick (aT 35) (aT 41) (.val (.bool false))),
aM 4 42] [4])
.ret)⟩
def pf67 : PFn := ⟨29, 1, [.tmp 2], sq
(rg [aO 1 (.boxp 68 (aT 0)),
aO 2 (.mv (.val (.list .nil 3 [])))] [1])
(sq
(rg [aO 3 (.nacc 54 3)] [1, 3])
(sq
(sq
(rg [aF 5 3 1,
aL 6 5,
aG 7 6,
aC 8 0] [1, 3, 7, 8])
(.blk 0 (.loop (sq
(rg [aB 9 .lss 8 7] [1, 3, 7, 8, 9])
(sq
(cn 9
.skip
(.ext 0))
(sq
(.blk 1 (sq
(rg [aM 10 8,
aM 4 10] [1, 3, 4, 7, 8])
(rg [aM 11 3,
aF 12 3 1,
aL 13 12,
aF 14 3 1,
aL 15 14,
aG 16 15,
aK 17 .sub 16 1,
aM 18 4,
aB 19 .sub 17 18,
aI 20 3 13 19,
aN 21 3 20,
aO 22 (.bsl 1 3 [(iP 0), (iP 0), (iP 0)] [(0, 3, (aT 21))]),
aO 23 (.app 54 3 24 (aT 11) (aT 22)),
aM 3 23] [1, 3, 7, 8])))
(rg [aK 24 .add 8 1,
aM 8 24] [1, 3, 7, 8])))))))
(sq
(rg [aM 25 3,
aF 26 4 1,
aL 27 26,
aO 28 (.app 54 3 24 (aT 25) (aT 27)),
aM 2 28] [2])
.ret)))⟩
def pf68 : PFn := ⟨51, 2, [.tmp 4], sq
(rg [aO 2 (.boxp 30 (aT 0)),
aU 4 false] [1, 2])
(sq
(sq
(rg [aM 9 1,
aG 10 9,
aC 11 0] [1, 2, 9, 10, 11])
(.blk 0 (.loop (.trim (sq
(rg [aB 12 .lss 11 10] [1, 2, 9, 10, 11, 12])
(sq
(cn 12
.skip
(.ext 0))
(sq
(.blk 1 (sq
(rg [aM 13 11,
aI 14 3 9 11,
aN 15 3 14,
aO 6 (.zer 54 (.agg [(iP 0), (iP 0), (iP 0)])),
aM 5 13,
aZ (.st 3 (aT 6) (aT 15))] [1, 2, 5, 6, 9, 10, 11])
(sq
(sq
(rg [aM 16 5,
aK 17 .gtr 16 0,
aM 18 17,
bN 19 18 true 7 2,
bM 20 18 true 1,
bM 21 18 true 5,
bO 22 18 true (.bin .sub (aT 21) (cI 1)),
bO 23 18 true (.iaS 3 (aT 20) (aT 22)),
bN 24 18 true 3 23,
bN 25 18 true 3 6,
bO 26 18 true (.call 115 .pure [(aT 19), (aT 24), (aT 25)]),
bO 27 18 true (.un .not (aT 26)),
aO 28 (.pick (aT 18) (aT 27) (.val (.bool false)))] [1, 2, 5, 6, 9, 10, 11, 28])
(cn 28
(sq
(rg [aU 4 false] [4])
.ret)
.skip))
(sq
(rg [aM 29 1,
aM 30 5,
aO 31 (.slc 3 (aT 29) none (some (aT 30)) none),
aG 32 31,
aC 33 0] [1, 2, 6, 9, 10, 11, 31, 32, 33])
(.blk 2 (.loop (.trim (sq
(rg [aB 34 .lss 33 32] [1, 2, 6, 9, 10, 11, 31, 32, 33, 34])
(sq
(cn 34
.skip
(.ext 2))
(sq
(.blk 3 (sq
(rg [aI 35 3 31 33,
aN 36 3 35,
aO 8 (.zer 54 (.agg [(iP 0), (iP 0), (iP 0)])),
aZ (.st 3 (aT 8) (aT 36))] [1, 2, 6, 8, 9, 10, 11, 31, 32, 33])
(sq
(rg [aF 37 0 8,
aL 38 37,
aF 39 0 6,
aL 40 39,
aB 41 .eql 38 40,
aM 42 41,
bF 43 42 true 1 8,
bL 44 42 true 43,
bF 45 42 true 1 6,
bL 46 42 true 45,
bO 47 42 true (.bin .eql (aT 44) (aT 46)),
aO 48 (.pick (aT 42) (aT 47) (.val (.bool false)))] [1, 2, 6, 9, 10, 11, 31, 32, 33, 48])
(cn 48
(sq
(rg [aU 4 false] [4])
.ret)
.skip))))
(rg [aK 49 .add 33 1,
aM 33 49] [1, 2, 6, 9, 10, 11, 31, 32, 33])))))))))))
(rg [aK 50 .add 11 1,
aM 11 50] [1, 2, 9, 10, 11]))))))))
(sq
(rg [aU 4 true] [4])
.ret))⟩
def pf73 : PFn := ⟨25, 2, [.tmp 4], sq
(rg [aO 2 (.boxp 30 (aT 0)),
aO 4 (.mv (.val (.list .nil 3 [])))] [1, 2])
(sq
(rg [aO 5 (.nacc 54 3)] [1, 2, 5])
(sq
(sq
(rg [aF 8 6 2,
aL 9 8,
aG 10 9,
aC 11 0] [1, 5, 9, 10, 11])
(.blk 0 (.loop (.trim (sq
(rg [aB 12 .lss 11 10] [1, 5, 9, 10, 11, 12])
(sq
(cn 12
.skip
(.ext 0))
(sq
(.blk 1 (sq
(rg [aM 13 11,
aI 14 5 9 11,
aN 15 5 14,
aO 7 (.zer 68 (.agg [(iP 0), (iP 0), (iP 0), (.list .nil 3 []), (.list .nil 3 [])])),
aM 6 13,
aZ (.st 5 (aT 7) (aT 15))] [1, 5, 6, 7, 9, 10, 11])
(sq
(rg [aM 16 6,
aM 17 1,
aB 18 .neq 16 17] [1, 5, 7, 9, 10, 11, 18])
(cn 18
(rg [aM 19 5,
aN 20 5 7,
aP 21 67 [aT 20],
aO 22 (.app 54 3 24 (aT 19) (aT 21)),
aM 5 22] [1, 5, 9, 10, 11])
.skip))))
(rg [aK 23 .add 11 1,
aM 11 23] [1, 5, 9, 10, 11]))))))))
(sq
(rg [aM 24 5,
aM 4 24] [4])
.ret)))⟩
def pf74 : PFn := ⟨17, 2, [.tmp 4], sq
(rg [aO 2 (.boxp 54 (aT 0)),
aU 4 false] [1, 2])
(sq
(sq
(rg [aM 7 1,
aG 8 7,
aC 9 0] [2, 7, 8, 9])
(.blk 0 (.loop (.trim (sq
(rg [aB 10 .lss 9 8] [2, 7, 8, 9, 10])
(sq
(cn 10
.skip
(.ext 0))
(sq
(.blk 1 (sq
(rg [aI 11 3 7 9,
aN 12 3 11,
aO 6 (.zer 54 (.agg [(iP 0), (iP 0), (iP 0)])),
aZ (.st 3 (aT 6) (aT 12))] [2, 6, 7, 8, 9])
(sq
(rg [aN 13 3 2,
aN 14 3 6,
aP 15 118 [aT 13, aT 14]] [2, 7, 8, 9, 15])
(cn 15
(sq
(rg [aU 4 true] [4])
.ret)
.skip))))
(rg [aK 16 .add 9 1,
aM 9 16] [2, 7, 8, 9]))))))))
(sq
(rg [aU 4 false] [4])
.ret))⟩
def pf80 : PFn := ⟨20, 2, [.tmp 4], sq
(rg [aO 2 (.boxp 30 (aT 0)),
aC 4 0] [1, 2])
(sq
(sq
(rg [aN 6 7 2,
aP 7 22 [aT 6],
aM 5 7] [1, 2, 5])
(sq
(rg [aM 8 5,
aK 9 .neq 8 0] [1, 2, 5, 9])
(cn 9
(sq
(rg [aM 10 5,
aM 4 10] [4])
.ret)
.skip)))
(sq
(sq
(rg [aM 11 1,
aK 12 .lss 11 0,
aM 13 12,
bM 14 13 false 1,
bF 15 13 false 6 2,
bL 16 13 false 15,
bO 17 13 false (.len (aT 16)),
bO 18 13 false (.bin .geq (aT 14) (aT 17)),
aO 19 (.pick (aT 13) (.val (.bool true)) (aT 18))] [19])
(cn 19
(sq
(rg [aC 4 2] [4])
.ret)
.skip))
(sq
(rg [aC 4 0] [4])
.ret)))⟩
def pf81 : PFn := ⟨54, 1, [.cell 2 (some 7)], sq
(rg [aO 1 (.boxm 30 (aT 0)),
aO 2 (.zer 30 (.agg [(iP 0), (iP 0), (.list .nil 1 []), (.list .nil 1 []), (.list .nil 4 []), (.list .nil 6 []), (.list .nil 5 [])]))] [1, 2])
(sq
(rg [aF 6 0 1,
aF 7 2 6,
aL 8 7,
aO 9 (.appp 3 1 8 (.val (.list .nil 1 [])) (aT 8)),
aF 10 0 1,
aF 11 2 10,
aZ (.st 1 (aT 11) (aT 9))] [1, 2])
(sq
(rg [aF 12 0 1,
aF 13 3 12,
aL 14 13,
aO 15 (.appp 4 1 1 (.val (.list .nil 1 [])) (aT 14)),
aF 16 0 1,
aF 17 3 16,
aZ (.st 1 (aT 17) (aT 15))] [1, 2])
(sq
(rg [aF 18 4 1,
aL 19 18,
aO 20 (.appp 75 4 32 (.val (.list .nil 4 [])) (aT 19)),
aF 21 4 1,
aZ (.st 1 (aT 21) (aT 20))] [1, 2])
(sq
(rg [aF 22 5 1,
aL 23 22,
aO 24 (.appp 78 6 48 (.val (.list .nil 6 [])) (aT 23)),
aF 25 5 1,
aZ (.st 1 (aT 25) (aT 24))] [1, 2])
(sq
(rg [aF 26 6 1,
aL 27 26,
aG 28 27,
aO 29 (.mks 68 5 72 [(iP 0), (iP 0), (iP 0), (.list .nil 3 []), (.list .nil 3 [])] (aT 28) (aT 28)),
aM 3 29] [1, 2, 3])
(sq
(sq
(rg [aF 30 6 1,
aL 31 30,
aG 32 31,
aC 33 0] [1, 2, 3, 31, 32, 33])
(.blk 0 (.loop (.trim (sq
(rg [aB 34 .lss 33 32] [1, 2, 3, 31, 32, 33, 34])
(sq
(cn 34
.skip
(.ext 0))
(sq
(.blk 1 (sq
(rg [aM 35 33,
aI 36 5 31 33,
aN 37 5 36,
aO 5 (.zer 68 (.agg [(iP 0), (iP 0), (iP 0), (.list .nil 3 []), (.list .nil 3 [])])),
aM 4 35,
aZ (.st 5 (aT 5) (aT 37))] [1, 2, 3, 4, 5, 31, 32, 33])
(sq
(rg [aF 38 3 5,
aL 39 38,
aO 40 (.appp 54 3 24 (.val (.list .nil 3 [])) (aT 39)),
aF 41 3 5,
aZ (.st 1 (aT 41) (aT 40))] [1, 2, 3, 4, 5, 31, 32, 33])
(sq
(rg [aF 42 4 5,
aL 43 42,
aO 44 (.appp 54 3 24 (.val (.list .nil 3 [])) (aT 43)),
aF 45 4 5,
aZ (.st 1 (aT 45) (aT 44))] [1, 2, 3, 4, 5, 31, 32, 33])
(rg [aM 46 3,
aM 47 4,
aN 48 5 5,
aI 49 5 46 47,
aZ (.st 5 (aT 49) (aT 48))] [1, 2, 3, 31, 32, 33])))))
(rg [aK 50 .add 33 1,
aM 33 50] [1, 2, 3, 31, 32, 33]))))))))
(sq
(rg [aM 51 3,
aF 52 6 1,
aZ (.st 1 (aT 52) (aT 51))] [1, 2])
(sq
(rg [aN 53 7 1,
aZ (.st 7 (aT 2) (aT 53))] [2])
.ret))))))))⟩
def pf83 : PFn := ⟨38, 2, [.tmp 4], sq
(rg [aO 2 (.boxp 68 (aT 0)),
aO 3 (.boxp 68 (aT 1)),
aU 4 false] [2, 3])
(sq
(rg [aF 5 0 2,
aL 6 5,
aF 7 0 3,
aL 8 7,
aB 9 .eql 6 8,
aM 10 9,
bF 11 10 true 1 2,
bL 12 10 true 11,
bF 13 10 true 1 3,
bL 14 10 true 13,
bO 15 10 true (.bin .eql (aT 12) (aT 14)),
aO 16 (.pick (aT 10) (aT 15) (.val (.bool false))),
aM 17 16,
bF 18 17 true 2 2,
bL 19 17 true 18,
bF 20 17 true 2 3,
bL 21 17 true 20,
bO 22 17 true (.bin .eql (aT 19) (aT 21)),
aO 23 (.pick (aT 17) (aT 22) (.val (.bool false))),
aM 24 23,
bF 25 24 true 3 2,
bL 26 24 true 25,
bF 27 24 true 3 3,
bL 28 24 true 27,
bO 29 24 true (.call 38 .pure [(aT 26), (aT 28)]),
aO 30 (.pick (aT 24) (aT 29) (.val (.bool false))),
aM 31 30,
bF 32 31 true 4 2,
bL 33 31 true 32,
bF 34 31 true 4 3,
bL 35 31 true 34,
bO 36 31 true (.call 38 .pure [(aT 33), (aT 35)]),
aO 37 (.pick (aT 31) (aT 36) (.val (.bool false))),
aM 4 37] [4])
.ret)⟩
def pf92 : PFn := ⟨20, 2, [.tmp 4], sq
(rg [aC 4 0] [0, 1])
(sq
(rg [aM 8 0,
aP 9 139 [aT 8],
aM 7 9,
aE 10 0 7,
aE 11 1 7,
aM 5 10,
aM 6 11] [1, 5, 6])
(sq
(sq
(rg [aM 12 1,
aM 13 5,
aB 14 .eql 12 13] [1, 5, 6, 14])
(cn 14
(sq
(rg [aM 15 6,
aM 4 15] [4])
.ret)
.skip))
(sq
(sq
(rg [aM 16 1,
aM 17 6,
aB 18 .eql 16 17] [5, 18])
(cn 18
(sq
(rg [aM 19 5,
aM 4 19] [4])
.ret)
.skip))
(sq
(rg [aC 4 (-1)] [4])
.ret))))⟩
def pf99 : PFn := ⟨86, 2, [.tmp 4, .tmp 5], sq
(rg [aO 2 (.boxp 25 (aT 0)),
aO 4 (.mv (.val (.list .nil 2 []))),
aC 5 0] [1, 2])
(sq
(sq
(rg [aN 13 4 2,
aM 14 1,
aP 15 63 [aT 13, aT 14],
aM 6 15] [1, 2, 6])
(sq
(rg [aM 16 6,
aK 17 .neq 16 0] [1, 2, 6, 17])
(cn 17
(sq
(rg [aM 18 6,
aO 4 (.mv (.val (.list .nil 2 []))),
aM 5 18] [4, 5])
.ret)
.skip)))
(sq
(rg [aN 19 4 2,
aM 20 1,
aP 21 148 [aT 19, aT 20],
aM 7 21] [7])
(sq
(rg [aO 8 (.nacc 179 2)] [7, 8])
(sq
(rg [aM 22 7,
aG 23 22,
aO 24 (.mks 3 1 8 [(iP 0)] (aT 23) (aT 23)),
aM 9 24] [7, 8, 9])
(sq
(sq
(rg [aC 10 0] [7, 8, 9, 10])
(.blk 0 (.loop (sq
(sq
(rg [aM 25 10,
aM 26 7,
aG 27 26,
aB 28 .lss 25 27] [7, 8, 9, 10, 28])
(cn 28
.skip
(.ext 0)))
(sq
(.blk 1 (sq
(sq
(rg [aM 31 7,
aM 32 10,
aI 33 1 31 32,
aL 34 33,
aK 35 .lss 34 0] [7, 8, 9, 10, 35])
(cn 35
(.ext 1)
.skip))
(sq
(rg [aM 36 7,
aM 37 10,
aI 38 1 36 37,
aL 39 38,
aK 40 .quo 39 8,
aK 41 .mul 40 6,
aM 42 7,
aM 43 10,
aI 44 1 42 43,
aL 45 44,
aK 46 .rem 45 8,
aB 47 .add 41 46,
aM 11 47] [7, 8, 9, 10, 11])
(sq
(sq
(rg [aM 48 11,
aM 49 10,
aB 50 .eql 48 49] [7, 8, 9, 10, 11, 50])
(cn 50
(sq
(rg [aM 51 9,
aM 52 10,
aM 53 8,
aG 54 53,
aI 55 1 51 52,
aZ (.st 1 (aT 55) (aT 54))] [7, 8, 9, 10, 11])
(rg [aM 56 8,
aM 57 7,
aM 58 10,
aI 59 1 57 58,
aL 60 59,
aO 61 (.bld [(iP 0), (.list .nil 1 [])] [(0, 1, (aT 60))]),
aO 62 (.bsl 1 2 [(iP 0), (.list .nil 1 [])] [(0, 2, (aT 61))]),
aO 63 (.app 179 2 32 (aT 56) (aT 62)),
aM 8 63] [7, 8, 9, 10, 11]))
.skip))
(sq
(rg [aM 64 9,
aM 65 11,
aI 66 1 64 65,
aL 67 66,
aM 12 67] [7, 8, 9, 10, 12])
(rg [aM 68 8,
aM 69 12,
aM 70 8,
aM 71 12,
aI 72 2 70 71,
aF 73 1 72,
aL 74 73,
aM 75 10,
aK 76 .quo 75 6,
aK 77 .mul 76 8,
aM 78 10,
aK 79 .rem 78 6,
aB 80 .add 77 79,
aO 81 (.bsl 1 1 [(iP 0)] [(0, 1, (aT 80))]),
aO 82 (.app 3 1 8 (aT 74) (aT 81)),
aI 83 2 68 69,
aF 84 1 83,
aZ (.st 1 (aT 84) (aT 82))] [7, 8, 9, 10]))))))
(rg [aM 29 10,
aK 30 .add 29 1,
aM 10 30] [7, 8, 9, 10]))))))
(sq
(rg [aM 85 8,
aM 4 85,
aC 5 0] [4, 5])
.ret))))))⟩
def pf100 : PFn := ⟨21, 3, [.tmp 6], sq
(rg [aU 6 false] [0, 1, 2])
(sq
(sq
(rg [aM 9 1,
aG 10 9,
aC 11 0] [0, 2, 9, 10, 11])
(.blk 0 (.loop (.trim (sq
(rg [aB 12 .lss 11 10] [0, 2, 9, 10, 11, 12])
(sq
(cn 12
.skip
(.ext 0))
(sq
(.blk 1 (sq
(rg [aI 13 3 9 11,
aN 14 3 13,
aO 8 (.zer 54 (.agg [(iP 0), (iP 0), (iP 0)])),
aZ (.st 3 (aT 8) (aT 14))] [0, 2, 8, 9, 10, 11])
(sq
(rg [aM 15 0,
aN 16 3 8,
aP 17 101 [aT 15, aT 16],
aM 18 2,
aB 19 .eql 17 18] [0, 2, 9, 10, 11, 19])
(cn 19
(sq
(rg [aU 6 true] [6])
.ret)
.skip))))
(rg [aK 20 .add 11 1,
aM 11 20] [0, 2, 9, 10, 11]))))))))
(sq
(rg [aU 6 false] [6])
.ret))⟩
def pf101 : PFn := ⟨34, 2, [.tmp 4], sq
(rg [aO 3 (.boxp 54 (aT 1)),
aC 4 0] [0, 3])
(sq
(sq
(rg [aM 9 0,
aG 10 9,
aC 11 0] [3, 9, 10, 11])
(.blk 0 (.loop (.trim (sq
(rg [aB 12 .lss 11 10] [3, 9, 10, 11, 12])
(sq
(cn 12
.skip
(.ext 0))
(sq
(.blk 1 (sq
(rg [aI 13 2 9 11,
aN 14 2 13,
aO 6 (.zer 179 (.agg [(iP 0), (.list .nil 1 [])])),
aZ (.st 2 (aT 6) (aT 14))] [3, 6, 9, 10, 11])
(sq
(rg [aF 15 1 6,
aL 16 15,
aG 17 16,
aC 18 0] [3, 6, 9, 10, 11, 16, 17, 18])
(.blk 2 (.loop (sq
(rg [aB 19 .lss 18 17] [3, 6, 9, 10, 11, 16, 17, 18, 19])
(sq
(cn 19
.skip
(.ext 2))
(sq
(.blk 3 (sq
(rg [aI 20 1 16 18,
aL 21 20,
aM 8 21] [3, 6, 8, 9, 10, 11, 16, 17, 18])
(sq
(rg [aM 22 8,
aF 23 0 3,
aL 24 23,
aO 25 (.bin .mul (cI 8) (aT 24)),
aF 26 1 3,
aL 27 26,
aB 28 .add 25 27,
aB 29 .eql 22 28] [3, 6, 9, 10, 11, 16, 17, 18, 29])
(cn 29
(sq
(rg [aF 30 0 6,
aL 31 30,
aM 4 31] [4])
.ret)
.skip))))
(rg [aK 32 .add 18 1,
aM 18 32] [3, 6, 9, 10, 11, 16, 17, 18])))))))))
(rg [aK 33 .add 11 1,
aM 11 33] [3, 9, 10, 11]))))))))
(sq
(rg [aC 4 (-1)] [4])
.ret))⟩
def pf103 : PFn := ⟨26, 2, [.tmp 4], sq
(rg [aU 4 false] [0, 1])
(sq
(sq
(rg [aM 6 0,
aG 7 6,
aM 8 1,
aG 9 8,
aB 10 .neq 7 9] [0, 1, 10])
(cn 10
(sq
(rg [aU 4 false] [4])
.ret)
.skip))
(sq
(sq
(rg [aC 5 0] [0, 1, 5])
(.blk 0 (.loop (sq
(sq
(rg [aM 11 5,
aM 12 0,
aG 13 12,
aB 14 .lss 11 13] [0, 1, 5, 14])
(cn 14
.skip
(.ext 0)))
(sq
(.blk 1 (sq
(rg [aM 17 0,
aM 18 5,
aI 19 1 17 18,
aL 20 19,
aM 21 1,
aM 22 5,
aI 23 1 21 22,
aL 24 23,
aO 25 (.eqb true (aT 20) (aT 24))] [0, 1, 5, 25])
(cn 25
(sq
(rg [aU 4 false] [4])
.ret)
.skip)))
(rg [aM 15 5,
aK 16 .add 15 1,
aM 5 16] [0, 1, 5]))))))
(sq
(rg [aU 4 true] [4])
.ret)))⟩
def pf111 : PFn := ⟨30, 2, [.tmp 4], sq
(rg [aO 2 (.boxp 75 (aT 0)),
aO 3 (.boxp 75 (aT 1)),
aU 4 false] [2, 3])
(sq
(sq
(rg [aF 5 0 2,
aL 6 5,
aF 7 0 3,
aL 8 7,
aB 9 .neq 6 8] [2, 3, 9])
(cn 9
(sq
(rg [aF 10 0 2,
aL 11 10,
aF 12 0 3,
aL 13 12,
aB 14 .lss 11 13,
aM 4 14] [4])
.ret)
.skip))
(sq
(sq
(rg [aF 15 1 2,
aL 16 15,
aF 17 1 3,
aL 18 17,
aB 19 .neq 16 18] [2, 3, 19])
(cn 19
(sq
(rg [aF 20 1 2,
aL 21 20,
aF 22 1 3,
aL 23 22,
aB 24 .lss 21 23,
aM 4 24] [4])
.ret)
.skip))
(sq
(rg [aF 25 2 2,
aL 26 25,
aF 27 2 3,
aL 28 27,
aB 29 .lss 26 28,
aM 4 29] [4])
.ret)))⟩
def pf112 : PFn := ⟨35, 3, [.tmp 6], sq
(rg [aO 3 (.boxp 25 (aT 0)),
aU 6 false] [1, 2, 3])
(sq
(rg [aM 7 1,
aK 8 .geq 7 0,
aM 9 8,
bM 10 9 true 1,
bF 11 9 true 2 3,
bL 12 9 true 11,
bO 13 9 true (.len (aT 12)),
bO 14 9 true (.bin .lss (aT 10) (aT 13)),
aO 15 (.pick (aT 9) (aT 14) (.val (.bool false))),
aM 16 15,
bM 17 16 true 2,
bO 18 16 true (.bin .geq (aT 17) (cI 0)),
aO 19 (.pick (aT 16) (aT 18) (.val (.bool false))),
aM 20 19,
bM 21 20 true 2,
bO 22 20 true (.bin .lss (aT 21) (cI 6)),
aO 23 (.pick (aT 20) (aT 22) (.val (.bool false))),
aM 24 23,
bF 25 24 true 2 3,
bL 26 24 true 25,
bM 27 24 true 1,
bO 28 24 true (.iaS 1 (aT 26) (aT 27)),
bL 29 24 true 28,
bM 30 24 true 2,
bO 31 24 true (.bin .shr (aT 29) (aT 30)),
bO 32 24 true (.bin .and (aT 31) (cI 1)),
bO 33 24 true (.bin .eql (aT 32) (cI 1)),
aO 34 (.pick (aT 24) (aT 33) (.val (.bool false))),
aM 6 34] [6])
.ret)⟩
def pf113 : PFn := ⟨19, 2, [.tmp 4], sq
(rg [aU 4 false] [0, 1])
(sq
(rg [aM 5 1,
aK 6 .geq 5 0,
aM 7 6,
bM 8 7 true 0,
bO 9 7 true (.call 151 .pure [(aT 8)]),
bM 10 7 true 1,
bO 11 7 true (.bin .eql (aT 9) (aT 10)),
bM 12 7 true 11,
bM 13 12 false 0,
bO 14 12 false (.call 152 .pure [(aT 13)]),
bM 15 12 false 1,
bO 16 12 false (.bin .eql (aT 14) (aT 15)),
bO 17 7 true (.pick (aT 12) (.val (.bool true)) (aT 16)),
aO 18 (.pick (aT 7) (aT 17) (.val (.bool false))),
aM 4 18] [4])
.ret)⟩
def pf114 : PFn := ⟨30, 2, [.tmp 4], sq
(rg [aO 2 (.boxp 54 (aT 0)),
aO 3 (.boxp 54 (aT 1)),
aU 4 false] [2, 3])
(sq
(sq
(rg [aF 5 0 2,
aL 6 5,
aF 7 0 3,
aL 8 7,
aB 9 .neq 6 8] [2, 3, 9])
(cn 9
(sq
(rg [aF 10 0 2,
aL 11 10,
aF 12 0 3,
aL 13 12,
aB 14 .lss 11 13,
aM 4 14] [4])
.ret)
.skip))
(sq
(sq
(rg [aF 15 1 2,
aL 16 15,
aF 17 1 3,
aL 18 17,
aB 19 .neq 16 18] [2, 3, 19])
(cn 19
(sq
(rg [aF 20 1 2,
aL 21 20,
aF 22 1 3,
aL 23 22,
aB 24 .lss 21 23,
aM 4 24] [4])
.ret)
.skip))
(sq
(rg [aF 25 2 2,
aL 26 25,
aF 27 2 3,
aL 28 27,
aB 29 .lss 26 28,
aM 4 29] [4])
.ret)))⟩
def pf115 : PFn := ⟨42, 3, [.tmp 6], sq
(rg [aO 3 (.boxp 30 (aT 0)),
aO 4 (.boxp 54 (aT 1)),
aO 5 (.boxp 54 (aT 2)),
aU 6 false] [3, 4, 5])
(sq
(sq
(rg [aF 11 0 3,
aN 12 4 11,
aN 13 3 4,
aP 14 141 [aT 12, aT 13],
aG 15 14,
aC 16 0] [3, 4, 5, 14, 15, 16])
(.blk 0 (.loop (.trim (sq
(rg [aB 17 .lss 16 15] [3, 4, 5, 14, 15, 16, 17])
(sq
(cn 17
.skip
(.ext 0))
(sq
(.blk 1 (sq
(rg [aI 18 3 14 16,
aN 19 3 18,
aO 8 (.zer 54 (.agg [(iP 0), (iP 0), (iP 0)])),
aZ (.st 3 (aT 8) (aT 19))] [3, 4, 5, 8, 14, 15, 16])
(sq
(rg [aN 20 3 8,
aN 21 3 5,
aO 22 (.eqs false [true, true, true] (aT 20) (aT 21))] [3, 4, 5, 14, 15, 16, 22])
(cn 22
(sq
(rg [aU 6 true] [6])
.ret)
.skip))))
(rg [aK 23 .add 16 1,
aM 16 23] [3, 4, 5, 14, 15, 16]))))))))
(sq
(sq
(rg [aF 24 5 3,
aL 25 24,
aG 26 25,
aC 27 0] [4, 5, 25, 26, 27])
(.blk 2 (.loop (.trim (sq
(rg [aB 28 .lss 27 26] [4, 5, 25, 26, 27, 28])
(sq
(cn 28
.skip
(.ext 2))
(sq
(.blk 3 (sq
(rg [aI 29 6 25 27,
aN 30 6 29,
aO 10 (.zer 78 (.agg [(iP 0), (iP 0), (iP 0), (iP 0), (iP 0), (iP 0)])),
aZ (.st 6 (aT 10) (aT 30))] [4, 5, 10, 25, 26, 27])
(sq
(rg [aF 31 0 10,
aN 32 3 31,
aN 33 3 4,
aO 34 (.eqs false [true, true, true] (aT 32) (aT 33)),
aM 35 34,
bF 36 35 true 3 10,
bN 37 35 true 3 36,
bN 38 35 true 3 5,
bO 39 35 true (.eqs false [true, true, true] (aT 37) (aT 38)),
aO 40 (.pick (aT 35) (aT 39) (.val (.bool false)))] [4, 5, 25, 26, 27, 40])
(cn 40
(sq
(rg [aU 6 true] [6])
.ret)
.skip))))
(rg [aK 41 .add 27 1,
aM 27 41] [4, 5, 25, 26, 27]))))))))
(sq
(rg [aU 6 false] [6])
.ret)))⟩
def pf118 : PFn := ⟨38, 2, [.tmp 4], sq
(rg [aO 2 (.boxp 54 (aT 0)),
aO 3 (.boxp 54 (aT 1)),
aU 4 false] [2, 3])
(sq
(sq
(rg [aF 7 0 2,
aL 8 7,
aF 9 0 3,
aL 10 9,
aB 11 .neq 8 10] [2, 3, 11])
(cn 11
(sq
(rg [aU 4 false] [4])
.ret)
.skip))
(sq
(rg [aF 12 1 2,
aL 13 12,
aF 14 1 3,
aL 15 14,
aO 16 (.mn (aT 13) [(aT 15)]),
aF 17 1 2,
aL 18 17,
aF 19 1 3,
aL 20 19,
aO 21 (.mx (aT 18) [(aT 20)]),
aM 5 16,
aM 6 21] [5, 6])
(sq
(rg [aM 22 5,
aK 23 .eql 22 2,
aM 24 23,
bM 25 24 true 6,
bO 26 24 true (.bin .eql (aT 25) (cI 4)),
aO 27 (.pick (aT 24) (aT 26) (.val (.bool false))),
aO 28 (.un .not (aT 27)),
aM 29 28,
bM 30 29 true 5,
bO 31 29 true (.bin .eql (aT 30) (cI 3)),
bM 32 29 true 31,
bM 33 32 true 6,
bO 34 32 true (.bin .eql (aT 33) (cI 5)),
bO 35 29 true (.pick (aT 32) (aT 34) (.val (.bool false))),
bO 36 29 true (.un .not (aT 35)),
aO 37 (.pick (aT 29) (aT 36) (.val (.bool false))),
aM 4 37] [4])
.ret)))⟩
def pf139 : PFn := ⟨15, 1, [.tmp 2, .tmp 3], sq
(rg [aC 2 0,
aC 3 0] [0])
(sq
(sq
(rg [aM 4 0] [4])
(.blk 0 (sq
(rg [aK 6 .eql 4 0,
aM 5 6] [4, 5])
(cn 5
(sq
(rg [aC 2 0,
aC 3 2] [2, 3])
.ret)
(sq
(rg [aK 8 .eql 4 1,
aM 7 8] [4, 7])
(cn 7
(sq
(rg [aC 2 3,
aC 3 1] [2, 3])
.ret)
(sq
(rg [aK 10 .eql 4 2,
aM 9 10] [4, 9])
(cn 9
(sq
(rg [aC 2 0,
aC 3 1] [2, 3])
.ret)
(sq
(rg [aK 12 .eql 4 3,
aM 11 12] [4, 11])
(cn 11
(sq
(rg [aC 2 1,
aC 3 2] [2, 3])
.ret)
(sq
(rg [aK 14 .eql 4 4,
aM 13 14] [13])
(cn 13
(sq
(rg [aC 2 2,
aC 3 3] [2, 3])
.ret)
.skip))))))))))))
(sq
(rg [aC 2 3,
aC 3 0] [2, 3])
.ret))⟩
def pf141 : PFn := ⟨52, 2, [.tmp 4], sq
(rg [aO 2 (.boxp 25 (aT 0)),
aO 3 (.boxp 54 (aT 1)),
aO 4 (.mv (.val (.list .nil 3 [])))] [2, 3])
(sq
(rg [aF 9 0 2,
aL 10 9,
aF 11 1 2,
aL 12 11,
aF 13 0 3,
aL 14 13,
aF 15 2 3,
aL 16 15,
aP 17 161 [aT 10, aT 12, aT 14, aT 16],
aM 5 17] [2, 3, 5])
(sq
(sq
(rg [aM 18 5,
aK 19 .lss 18 0] [2, 3, 5, 19])
(cn 19
(sq
(rg [aO 4 (.mv (.val (.list .nil 3 [])))] [4])
.ret)
.skip))
(sq
(rg [aO 6 (.nacc 54 3)] [2, 3, 5, 6])
(sq
(sq
(rg [aC 20 0] [2, 3, 5, 6, 20])
(.blk 0 (.loop (sq
(rg [aK 21 .lss 20 6] [2, 3, 5, 6, 20, 21])
(sq
(cn 21
.skip
(.ext 0))
(sq
(.blk 1 (sq
(rg [aM 22 20,
aM 7 22] [2, 3, 5, 6, 7, 20])
(sq
(rg [aM 23 7,
aF 24 2 3,
aL 25 24,
aK 26 .add 25 2,
aK 27 .rem 26 4,
aP 28 92 [aT 23, aT 27],
aM 8 28] [2, 3, 5, 6, 7, 8, 20])
(sq
(rg [aF 29 2 2,
aL 30 29,
aM 31 5,
aI 32 1 30 31,
aL 33 32,
aM 34 7,
aO 35 (.conv .u64 (aT 34)),
aB 36 .shr 33 35,
aK 37 .rem 36 2,
aK 38 .eql 37 1,
aM 39 38,
bM 40 39 true 8,
bO 41 39 true (.bin .geq (aT 40) (cI 0)),
aO 42 (.pick (aT 39) (aT 41) (.val (.bool false)))] [2, 3, 5, 6, 7, 8, 20, 42])
(cn 42
(rg [aM 43 6,
aM 44 5,
aM 45 7,
aM 46 8,
aO 47 (.bld [(iP 0), (iP 0), (iP 0)] [(0, 1, (aT 44)), (1, 1, (aT 45)), (2, 1, (aT 46))]),
aO 48 (.bsl 1 3 [(iP 0), (iP 0), (iP 0)] [(0, 3, (aT 47))]),
aO 49 (.app 54 3 24 (aT 43) (aT 48)),
aM 6 49] [2, 3, 5, 6, 20])
.skip)))))
(rg [aK 50 .add 20 1,
aM 20 50] [2, 3, 5, 6, 20])))))))
(sq
(rg [aM 51 6,
aM 4 51] [4])
.ret)))))⟩
def pf148 : PFn := ⟨232, 2, [.tmp 4], sq
(rg [aO 2 (.boxp 25 (aT 0)),
aO 4 (.mv (.val (.list .nil 1 [])))] [1, 2])
(sq
(rg [aF 21 2 2,
aL 22 21,
aG 23 22,
aM 5 23] [1, 2, 5])
(sq
(rg [aM 24 5,
aO 25 (.bin .mul (cI 6) (aT 24)),
aO 26 (.mks 3 1 8 [(iP 0)] (aT 25) (aT 25)),
aM 6 26] [1, 2, 5, 6])
(sq
(sq
(rg [aC 7 0] [1, 2, 5, 6, 7])
(.blk 0 (.loop (sq
(sq
(rg [aM 27 7,
aM 28 6,
aG 29 28,
aB 30 .lss 27 29] [1, 2, 5, 6, 7, 30])
(cn 30
.skip
(.ext 0)))
(sq
(.blk 1 (rg [aM 33 6,
aM 34 7,
aI 35 1 33 34,
aZ (.st 1 (aT 35) (cI (-1)))] [1, 2, 5, 6, 7]))
(rg [aM 31 7,
aK 32 .add 31 1,
aM 7 32] [1, 2, 5, 6, 7]))))))
(sq
(rg [aM 36 5,
aO 37 (.bin .mul (cI 24) (aT 36)),
aO 38 (.mks 4 1 1 [(.bool false)] (aT 37) (aT 37)),
aM 8 38] [1, 2, 6, 8])
(sq
(sq
(rg [aC 9 0] [1, 2, 6, 8, 9])
(.blk 2 (.loop (sq
(sq
(rg [aM 39 9,
aM 40 1,
aG 41 40,
aB 42 .lss 39 41] [1, 2, 6, 8, 9, 42])
(cn 42
.skip
(.ext 2)))
(sq
(.blk 3 (rg [aM 45 8,
aM 46 1,
aM 47 9,
aI 48 4 46 47,
aF 49 0 48,
aL 50 49,
aK 51 .mul 50 6,
aM 52 1,
aM 53 9,
aI 54 4 52 53,
aF 55 1 54,
aL 56 55,
aB 57 .add 51 56,
aK 58 .mul 57 4,
aM 59 1,
aM 60 9,
aI 61 4 59 60,
aF 62 2 61,
aL 63 62,
aB 64 .add 58 63,
aI 65 1 45 64,
aZ (.st 1 (aT 65) (.val (.bool true)))] [1, 2, 6, 8, 9]))
(rg [aM 43 9,
aK 44 .add 43 1,
aM 9 44] [1, 2, 6, 8, 9]))))))
(sq
(sq
(rg [aC 10 0] [2, 6, 8, 10])
(.blk 4 (.loop (sq
(sq
(rg [aM 66 10,
aM 67 6,
aG 68 67,
aB 69 .lss 66 68] [2, 6, 8, 10, 69])
(cn 69
.skip
(.ext 4)))
(sq
(.blk 5 (sq
(sq
(rg [aM 72 6,
aM 73 10,
aI 74 1 72 73,
aL 75 74,
aK 76 .geq 75 0,
aM 77 76,
bN 78 77 false 4 2,
bM 79 77 false 10,
bO 80 77 false (.bin .quo (aT 79) (cI 6)),
bM 81 77 false 10,
bO 82 77 false (.bin .rem (aT 81) (cI 6)),
bO 83 77 false (.call 112 .pure [(aT 78), (aT 80), (aT 82)]),
bO 84 77 false (.un .not (aT 83)),
aO 85 (.pick (aT 77) (.val (.bool true)) (aT 84))] [2, 6, 8, 10, 85])
(cn 85
(.ext 5)
.skip))
(sq
(rg [aM 86 6,
aM 87 10,
aM 88 10,
aK 89 .quo 88 6,
aK 90 .mul 89 8,
aM 91 10,
aK 92 .rem 91 6,
aB 93 .add 90 92,
aI 94 1 86 87,
aZ (.st 1 (aT 94) (aT 93))] [2, 6, 8, 10])
(sq
(rg [aM 95 10,
aO 96 (.bslm 3 1 1 [(iP 0)] [(0, 1, (aT 95))]),
aM 11 96] [2, 6, 8, 10, 11])
(.blk 6 (.loop (sq
(sq
(rg [aM 97 11,
aG 98 97,
aK 99 .gtr 98 0] [2, 6, 8, 10, 11, 99])
(cn 99
.skip
(.ext 6)))
(.blk 7 (sq
(rg [aM 100 11,
aM 101 11,
aG 102 101,
aK 103 .sub 102 1,
aI 104 1 100 103,
aL 105 104,
aM 12 105] [2, 6, 8, 10, 11, 12])
(sq
(rg [aM 106 11,
aM 107 11,
aG 108 107,
aK 109 .sub 108 1,
aO 110 (.slc 1 (aT 106) none (some (aT 109)) none),
aM 11 110] [2, 6, 8, 10, 11, 12])
(sq
(rg [aM 111 12,
aK 112 .quo 111 6,
aM 113 12,
aK 114 .rem 113 6,
aM 13 112,
aM 14 114] [2, 6, 8, 10, 11, 12, 13, 14])
(sq
(rg [aO 15 (.nacc 3 1)] [2, 6, 8, 10, 11, 12, 13, 14, 15])
(sq
(sq
(rg [aC 16 0] [2, 6, 8, 10, 11, 12, 13, 14, 15, 16])
(.blk 8 (.loop (sq
(sq
(rg [aM 115 16,
aK 116 .lss 115 6] [2, 6, 8, 10, 11, 12, 13, 14, 15, 16, 116])
(cn 116
.skip
(.ext 8)))
(sq
(.blk 9 (sq
(rg [aM 119 14,
aM 120 16,
aP 121 165 [aT 119, aT 120],
aM 122 121,
bN 123 122 true 4 2,
bM 124 122 true 13,
bM 125 122 true 16,
bO 126 122 true (.call 112 .pure [(aT 123), (aT 124), (aT 125)]),
aO 127 (.pick (aT 122) (aT 126) (.val (.bool false)))] [2, 6, 8, 10, 11, 12, 13, 14, 15, 16, 127])
(cn 127
(rg [aM 128 15,
aM 129 13,
aK 130 .mul 129 6,
aM 131 16,
aB 132 .add 130 131,
aO 133 (.bsl 1 1 [(iP 0)] [(0, 1, (aT 132))]),
aO 134 (.app 3 1 8 (aT 128) (aT 133)),
aM 15 134] [2, 6, 8, 10, 11, 12, 13, 14, 15, 16])
.skip)))
(rg [aM 117 16,
aK 118 .add 117 1,
aM 16 118] [2, 6, 8, 10, 11, 12, 13, 14, 15, 16]))))))
(sq
(sq
(rg [aC 17 0] [2, 6, 8, 10, 11, 12, 13, 14, 15, 17])
(.blk 10 (.loop (sq
(sq
(rg [aM 135 17,
aK 136 .lss 135 4] [2, 6, 8, 10, 11, 12, 13, 14, 15, 17, 136])
(cn 136
.skip
(.ext 10)))
(sq
(.blk 11 (sq
(rg [aF 139 0 2,
aL 140 139,
aF 141 1 2,
aL 142 141,
aM 143 13,
aM 144 17,
aP 145 166 [aT 140, aT 142, aT 143, aT 144],
aM 18 145] [2, 6, 8, 10, 11, 12, 13, 14, 15, 17, 18])
(sq
(sq
(rg [aM 146 14,
aM 147 17,
aP 148 113 [aT 146, aT 147],
aO 149 (.un .not (aT 148)),
aM 150 149,
bM 151 150 false 8,
bM 152 150 false 12,
bO 153 150 false (.bin .mul (aT 152) (cI 4)),
bM 154 150 false 17,
bO 155 150 false (.bin .add (aT 153) (aT 154)),
bO 156 150 false (.iaS 1 (aT 151) (aT 155)),
bL 157 150 false 156,
aO 158 (.pick (aT 150) (.val (.bool true)) (aT 157)),
aM 159 158,
bM 160 159 false 18,
bO 161 159 false (.bin .lss (aT 160) (cI 0)),
aO 162 (.pick (aT 159) (.val (.bool true)) (aT 161))] [2, 6, 8, 10, 11, 12, 13, 14, 15, 17, 18, 162])
(cn 162
(.ext 11)
.skip))
(sq
(rg [aC 19 0] [2, 6, 8, 10, 11, 12, 13, 14, 15, 17, 18, 19])
(.blk 12 (.loop (sq
(sq
(rg [aM 163 19,
aK 164 .lss 163 6] [2, 6, 8, 10, 11, 12, 13, 14, 15, 17, 18, 19, 164])
(cn 164
.skip
(.ext 12)))
(sq
(.blk 13 (sq
(rg [aN 167 4 2,
aM 168 18,
aM 169 19,
aP 170 112 [aT 167, aT 168, aT 169],
aM 171 170,
bM 172 171 true 19,
bM 173 171 true 17,
bO 174 171 true (.bin .add (aT 173) (cI 2)),
bO 175 171 true (.bin .rem (aT 174) (cI 4)),
bO 176 171 true (.call 113 .pure [(aT 172), (aT 175)]),
aO 177 (.pick (aT 171) (aT 176) (.val (.bool false))),
aM 178 177,
bM 179 178 true 8,
bM 180 178 true 18,
bO 181 178 true (.bin .mul (aT 180) (cI 6)),
bM 182 178 true 19,
bO 183 178 true (.bin .add (aT 181) (aT 182)),
bO 184 178 true (.bin .mul (aT 183) (cI 4)),
bM 185 178 true 17,
bO 186 178 true (.bin .add (aT 185) (cI 2)),
bO 187 178 true (.bin .rem (aT 186) (cI 4)),
bO 188 178 true (.bin .add (aT 184) (aT 187)),
bO 189 178 true (.iaS 1 (aT 179) (aT 188)),
bL 190 178 true 189,
bO 191 178 true (.un .not (aT 190)),
aO 192 (.pick (aT 178) (aT 191) (.val (.bool false)))] [2, 6, 8, 10, 11, 12, 13, 14, 15, 17, 18, 19, 192])
(cn 192
(rg [aM 193 15,
aM 194 18,
aK 195 .mul 194 6,
aM 196 19,
aB 197 .add 195 196,
aO 198 (.bsl 1 1 [(iP 0)] [(0, 1, (aT 197))]),
aO 199 (.app 3 1 8 (aT 193) (aT 198)),
aM 15 199] [2, 6, 8, 10, 11, 12, 13, 14, 15, 17, 18, 19])
.skip)))
(rg [aM 165 19,
aK 166 .add 165 1,
aM 19 166] [2, 6, 8, 10, 11, 12, 13, 14, 15, 17, 18, 19])))))))))
(rg [aM 137 17,
aK 138 .add 137 1,
aM 17 138] [2, 6, 8, 10, 11, 12, 13, 14, 15, 17]))))))
(sq
(rg [aC 20 0] [2, 6, 8, 10, 11, 15, 20])
(.blk 14 (.loop (sq
(sq
(rg [aM 200 20,
aM 201 15,
aG 202 201,
aB 203 .lss 200 202] [2, 6, 8, 10, 11, 15, 20, 203])
(cn 203
.skip
(.ext 14)))
(sq
(.blk 15 (sq
(rg [aM 206 6,
aM 207 15,
aM 208 20,
aI 209 1 207 208,
aL 210 209,
aI 211 1 206 210,
aL 212 211,
aK 213 .lss 212 0] [2, 6, 8, 10, 11, 15, 20, 213])
(cn 213
(sq
(rg [aM 214 6,
aM 215 15,
aM 216 20,
aI 217 1 215 216,
aL 218 217,
aM 219 6,
aM 220 10,
aI 221 1 219 220,
aL 222 221,
aI 223 1 214 218,
aZ (.st 1 (aT 223) (aT 222))] [2, 6, 8, 10, 11, 15, 20])
(rg [aM 224 11,
aM 225 15,
aM 226 20,
aI 227 1 225 226,
aL 228 227,
aO 229 (.bsl 1 1 [(iP 0)] [(0, 1, (aT 228))]),
aO 230 (.app 3 1 8 (aT 224) (aT 229)),
aM 11 230] [2, 6, 8, 10, 11, 15, 20]))
.skip)))
(rg [aM 204 20,
aK 205 .add 204 1,
aM 20 205] [2, 6, 8, 10, 11, 15, 20]))))))))))))))))))))
(rg [aM 70 10,
aK 71 .add 70 1,
aM 10 71] [2, 6, 8, 10]))))))
(sq
(rg [aM 231 6,
aM 4 231] [4])
.ret)))))))⟩
def pf151 : PFn := ⟨14, 1, [.tmp 2], sq
(rg [aC 2 0] [0])
(sq
(sq
(rg [aM 3 0] [3])
(.blk 0 (sq
(sq
(rg [aK 5 .eql 3 0,
aM 4 5] [3, 4])
(cn 4
.skip
(rg [aK 6 .eql 3 2,
aM 4 6] [3, 4])))
(cn 4
(sq
(rg [aC 2 0] [2])
.ret)
(sq
(sq
(rg [aK 8 .eql 3 1,
aM 7 8] [3, 7])
(cn 7
.skip
(rg [aK 9 .eql 3 3,
aM 7 9] [3, 7])))
(cn 7
(sq
(rg [aC 2 1] [2])
.ret)
(sq
(rg [aK 11 .eql 3 4,
aM 10 11] [3, 10])
(cn 10
(sq
(rg [aC 2 2] [2])
.ret)
(sq
(rg [aK 13 .eql 3 5,
aM 12 13] [12])
(cn 12
(sq
(rg [aC 2 3] [2])
.ret)
.skip))))))))))
(sq
(rg [aC 2 (-1)] [2])
.ret))⟩
def pf152 : PFn := ⟨14, 1, [.tmp 2], sq
(rg [aC 2 0] [0])
(sq
(sq
(rg [aM 3 0] [3])
(.blk 0 (sq
(sq
(rg [aK 5 .eql 3 0,
aM 4 5] [3, 4])
(cn 4
.skip
(rg [aK 6 .eql 3 3,
aM 4 6] [3, 4])))
(cn 4
(sq
(rg [aC 2 2] [2])
.ret)
(sq
(sq
(rg [aK 8 .eql 3 1,
aM 7 8] [3, 7])
(cn 7
.skip
(rg [aK 9 .eql 3 4,
aM 7 9] [3, 7])))
(cn 7
(sq
(rg [aC 2 3] [2])
.ret)
(sq
(rg [aK 11 .eql 3 2,
aM 10 11] [3, 10])
(cn 10
(sq
(rg [aC 2 1] [2])
.ret)
(sq
(rg [aK 13 .eql 3 5,
aM 12 13] [12])
(cn 12
(sq
(rg [aC 2 0] [2])
.ret)
.skip))))))))))
(sq
(rg [aC 2 (-1)] [2])
.ret))⟩
def pf161 : PFn := ⟨55, 4, [.tmp 8], sq
(rg [aC 8 0] [0, 1, 2, 3])
(sq
(rg [aM 11 2,
aM 12 0,
aB 13 .rem 11 12,
aM 14 2,
aM 15 0,
aB 16 .quo 14 15,
aM 9 13,
aM 10 16] [0, 1, 3, 9, 10])
(sq
(sq
(rg [aM 17 3] [0, 1, 9, 10, 17])
(.blk 0 (sq
(rg [aK 19 .eql 17 0,
aM 18 19] [0, 1, 9, 10, 17, 18])
(cn 18
(rg [aM 20 9,
aK 21 .add 20 1,
aM 9 21] [0, 1, 9, 10])
(sq
(rg [aK 23 .eql 17 1,
aM 22 23] [0, 1, 9, 10, 17, 22])
(cn 22
(rg [aM 24 10,
aK 25 .add 24 1,
aM 10 25] [0, 1, 9, 10])
(sq
(rg [aK 27 .eql 17 2,
aM 26 27] [0, 1, 9, 10, 17, 26])
(cn 26
(rg [aM 28 9,
aK 29 .sub 28 1,
aM 9 29] [0, 1, 9, 10])
(sq
(rg [aK 31 .eql 17 3,
aM 30 31] [0, 1, 9, 10, 30])
(cn 30
(rg [aM 32 10,
aK 33 .sub 32 1,
aM 10 33] [0, 1, 9, 10])
.skip))))))))))
(sq
(sq
(rg [aM 34 9,
aK 35 .lss 34 0,
aM 36 35,
bM 37 36 false 10,
bO 38 36 false (.bin .lss (aT 37) (cI 0)),
aO 39 (.pick (aT 36) (.val (.bool true)) (aT 38)),
aM 40 39,
bM 41 40 false 9,
bM 42 40 false 0,
bO 43 40 false (.bin .geq (aT 41) (aT 42)),
aO 44 (.pick (aT 40) (.val (.bool true)) (aT 43)),
aM 45 44,
bM 46 45 false 10,
bM 47 45 false 1,
bO 48 45 false (.bin .geq (aT 46) (aT 47)),
aO 49 (.pick (aT 45) (.val (.bool true)) (aT 48))] [0, 9, 10, 49])
(cn 49
(sq
(rg [aC 8 (-1)] [8])
.ret)
.skip))
(sq
(rg [aM 50 10,
aM 51 0,
aB 52 .mul 50 51,
aM 53 9,
aB 54 .add 52 53,
aM 8 54] [8])
.ret))))⟩
def pf165 : PFn := ⟨38, 2, [.tmp 4], sq
(rg [aU 4 false] [0, 1])
(sq
(rg [aM 5 0,
aM 6 1,
aB 7 .neq 5 6,
aM 8 7,
bM 9 8 true 0,
bM 10 8 true 1,
bO 11 8 true (.bin .add (aT 9) (aT 10)),
bO 12 8 true (.bin .neq (aT 11) (cI 6)),
aO 13 (.pick (aT 8) (aT 12) (.val (.bool false))),
aM 14 13,
bM 15 14 true 0,
bM 16 14 true 1,
bO 17 14 true (.bin .add (aT 15) (aT 16)),
bO 18 14 true (.bin .neq (aT 17) (cI 8)),
aO 19 (.pick (aT 14) (aT 18) (.val (.bool false))),
aM 20 19,
bM 21 20 false 0,
bM 22 20 false 1,
bO 23 20 false (.bin .neq (aT 21) (aT 22)),
bM 24 20 false 23,
bM 25 24 true 0,
bO 26 24 true (.bin .lss (aT 25) (cI 2)),
bO 27 20 false (.pick (aT 24) (aT 26) (.val (.bool false))),
aO 28 (.pick (aT 20) (.val (.bool true)) (aT 27)),
aM 29 28,
bM 30 29 false 0,
bM 31 29 false 1,
bO 32 29 false (.bin .neq (aT 30) (aT 31)),
bM 33 29 false 32,
bM 34 33 true 1,
bO 35 33 true (.bin .lss (aT 34) (cI 2)),
bO 36 29 false (.pick (aT 33) (aT 35) (.val (.bool false))),
aO 37 (.pick (aT 29) (.val (.bool true)) (aT 36)),
aM 4 37] [4])
.ret)⟩
def pf166 : PFn := ⟨55, 4, [.tmp 8], sq
(rg [aC 8 0] [0, 1, 2, 3])
(sq
(rg [aM 11 2,
aM 12 0,
aB 13 .rem 11 12,
aM 14 2,
aM 15 0,
aB 16 .quo 14 15,
aM 9 13,
aM 10 16] [0, 1, 3, 9, 10])
(sq
(sq
(rg [aM 17 3] [0, 1, 9, 10, 17])
(.blk 0 (sq
(rg [aK 19 .eql 17 0,
aM 18 19] [0, 1, 9, 10, 17, 18])
(cn 18
(rg [aM 20 9,
aK 21 .add 20 1,
aM 9 21] [0, 1, 9, 10])
(sq
(rg [aK 23 .eql 17 1,
aM 22 23] [0, 1, 9, 10, 17, 22])
(cn 22
(rg [aM 24 10,
aK 25 .add 24 1,
aM 10 25] [0, 1, 9, 10])
(sq
(rg [aK 27 .eql 17 2,
aM 26 27] [0, 1, 9, 10, 17, 26])
(cn 26
(rg [aM 28 9,
aK 29 .sub 28 1,
aM 9 29] [0, 1, 9, 10])
(sq
(rg [aK 31 .eql 17 3,
aM 30 31] [0, 1, 9, 10, 30])
(cn 30
(rg [aM 32 10,
aK 33 .sub 32 1,
aM 10 33] [0, 1, 9, 10])
.skip))))))))))
(sq
(sq
(rg [aM 34 9,
aK 35 .lss 34 0,
aM 36 35,
bM 37 36 false 9,
bM 38 36 false 0,
bO 39 36 false (.bin .geq (aT 37) (aT 38)),
aO 40 (.pick (aT 36) (.val (.bool true)) (aT 39)),
aM 41 40,
bM 42 41 false 10,
bO 43 41 false (.bin .lss (aT 42) (cI 0)),
aO 44 (.pick (aT 41) (.val (.bool true)) (aT 43)),
aM 45 44,
bM 46 45 false 10,
bM 47 45 false 1,
bO 48 45 false (.bin .geq (aT 46) (aT 47)),
aO 49 (.pick (aT 45) (.val (.bool true)) (aT 48))] [0, 9, 10, 49])
(cn 49
(sq
(rg [aC 8 (-1)] [8])
.ret)
.skip))
(sq
(rg [aM 50 10,
aM 51 0,
aB 52 .mul 50 51,
aM 53 9,
aB 54 .add 52 53,
aM 8 54] [8])
.ret))))⟩
end Go.Proofs.YtiaeckidlmoohaaGreat
