/- Trains: the calls that the laws' own example makes, remembered. -/
import Derived.Test.YtiaeckidlmoohaaGreatTrainLen
import Derived.Test.YtiaeckidlmoohaaGreatPmTwentyEight
set_option linter.unusedVariables false
namespace Go.Proofs.YtiaeckidlmoohaaGreat
open Go.Proofs.YtiaeckidlmoohaaGreat.PM
set_option maxRecDepth 100000
theorem nx85 : nfnOk Tryz.prog 85 pf85 = true := by kernel_rfl
def V0 : PV := (.list .any 1 [(.bool false), (.bool false), (.bool false), (.bool false), (.bool false), (.bool false), (.bool false), (.bool false), (.bool false), (.bool false), (.bool false), (.bool false), (.bool false), (.bool false), (.bool false), (.bool false)])
def V1 : PV := (.list .any 1 [(iP 1), (iP 1), (iP 1), (iP 1), (iP 0), (iP 0), (iP 0), (iP 0), (iP 0), (iP 0), (iP 0), (iP 0), (iP 0), (iP 0), (iP 0), (iP 0)])
def V12 : PV := (.list .any 3 [(iP 0), (iP 0), (iP 0)])
def V14 : PV := (.list .nil 3 [])
def V13 : PV := (.list .any 3 [(iP 3), (iP 0), (iP 2)])
def V2 : PV := (.list .bor 5 [(iP 1), (iP 192), (iP 192), V12, V14, (iP 1), (iP 192), (iP 0), V13, V14])
def V3 : PV := (.list .bor 5 [(iP 1), (iP 192), (iP 0), V12, V14, (iP 1), (iP 192), (iP 192), V13, V14])
def V4 : PV := (.list .ex 5 [(iP 1), (iP 192), (iP 0), (.list .ex 3 [(iP 0), (iP 0), (iP 0)]), V14, (iP 1), (iP 192), (iP 0), (.list .ex 3 [(iP 3), (iP 0), (iP 2)]), V14])
def V5 : PV := (.list .bor 5 [(iP 1), (iP 192), (iP 0), V12, V14, (iP 1), (iP 192), (iP 0), V13, V14])
def V6 : PV := (.fmap false (some 3) [] [])
def V7 : PV := (.list .nil 4 [])
def V8 : PV := (.list .nil 6 [])
def V9 : PV := (.fmap false (some 2) [(.agg [(iP 0), (iP 0)]), (.agg [(iP 1), (iP 0)]), (.agg [(iP 2), (iP 0)]), (.agg [(iP 3), (iP 0)])] [(iP 0), (iP 0), (iP 0), (iP 0)])
def V10 : PV := (.agg [(iP 4), (iP 4), V1, V0, V7, V8, V2, V6, V6])
def V11 : PV := (.agg [(iP 4), (iP 4), V1, V0, V7, V8, V3, V6, V6])
def V15 : PV := (.agg [(iP 4), (iP 4), V1, V0, V7, V8, V5])
def V16 : PV := (.agg [(iP 4), (iP 4), V1, V0, V7, V8, V4, V6, V6])
def V17 : PV := (.agg [(iP 4), (iP 4), V1, V0, V7, V8, V4])
def V29 : PV := (.fmap false none [(iP 3)] [(iP 1)])
def V18 : PV := (.agg [(iP 4), (iP 4), V1, V0, V7, V8, V2, V6, V6, V29, (.fmap false none [] []), V6])
def V30 : PV := (.fmap false none [(iP 0)] [(iP 1)])
def V19 : PV := (.agg [(iP 4), (iP 4), V1, V0, V7, V8, V3, V6, V6, V30, (.fmap false none [] []), V6])
def V20 : PV := (.agg [(iP 4), (iP 4), V1, V0])
def V21 : PV := (.agg [(iP 4), (iP 4), V1, V0, V7, V8, V5, V6, V6])
def V22 : PV := (.list .nil 1 [])
def V23 : PV := (.agg [(iP 0), (iP 0), (iP 0)])
def V24 : PV := (.agg [(iP 3), (iP 0), (iP 2)])
def V25 : PV := (.agg [(iP 4), (iP 4), V1, V0, V7, V8, V2])
def V26 : PV := (.agg [(iP 4), (iP 4), V1, V0, V7, V8, V3])
def V27 : PV := (.agg [(iP 1), (iP 192), (iP 0), (.list .ex 3 [(iP 0), (iP 0), (iP 0)]), V14])
def V28 : PV := (.agg [(iP 1), (iP 192), (iP 0), (.list .ex 3 [(iP 3), (iP 0), (iP 2)]), V14])
def V31 : PV := (.agg [(iP 1), (iP 0), (iP 0)])
def V32 : PV := (.agg [(iP 2), (iP 0), (iP 2)])
abbrev Calls1 := List (Nat × List PV × PV)
def L0 : Calls1 := []
theorem k0 : MemoOk Tryz.prog L0 := .nil
def A0 : List PV := []
def B0 : PV := V17
def L1 : Calls1 := (53, A0, B0) :: L0
theorem k1 : MemoOk Tryz.prog L1 := k0.call tb0_ok (n := 200) (by kernel_rfl)
def A1 : List PV := [V20]
def B1 : PV := (iP 0)
def L2 : Calls1 := (104, A1, B1) :: L1
theorem k2 : MemoOk Tryz.prog L2 := k1.call tb0_ok (n := 200) (by kernel_rfl)
def A2 : List PV := [V20, V7]
def B2 : PV := (iP 0)
def L3 : Calls1 := (54, A2, B2) :: L2
theorem k3 : MemoOk Tryz.prog L3 := k2.call tb0_ok (n := 200) (by kernel_rfl)
def A3 : List PV := [V27]
def B3 : PV := (.bool true)
def L4 : Calls1 := (57, A3, B3) :: L3
theorem k4 : MemoOk Tryz.prog L4 := k3.call tb0_ok (n := 200) (by kernel_rfl)
def A4 : List PV := [V28]
def B4 : PV := (.bool true)
def L5 : Calls1 := (57, A4, B4) :: L4
theorem k5 : MemoOk Tryz.prog L5 := k4.call tb0_ok (n := 200) (by kernel_rfl)
def A5 : List PV := [V27]
def B5 : PV := V12
def L6 : Calls1 := (59, A5, B5) :: L5
theorem k6 : MemoOk Tryz.prog L6 := k5.call tb0_ok (n := 200) (by kernel_rfl)
def A6 : List PV := [V20, V23]
def B6 : PV := (.bool true)
def L7 : Calls1 := (58, A6, B6) :: L6
theorem k7 : MemoOk Tryz.prog L7 := k6.call tb0_ok (n := 200) (by kernel_rfl)
def A7 : List PV := [V28]
def B7 : PV := V13
def L8 : Calls1 := (59, A7, B7) :: L7
theorem k8 : MemoOk Tryz.prog L8 := k7.call tb0_ok (n := 200) (by kernel_rfl)
def A8 : List PV := [V20, V24]
def B8 : PV := (.bool true)
def L9 : Calls1 := (58, A8, B8) :: L8
theorem k9 : MemoOk Tryz.prog L9 := k8.call tb0_ok (n := 200) (by kernel_rfl)
def A9 : List PV := [V17]
def B9 : PV := V16
def L10 : Calls1 := (60, A9, B9) :: L9
theorem k10 : MemoOk Tryz.prog L10 := k9.call tb0_ok (n := 200) (by kernel_rfl)
def A10 : List PV := [V16, V12]
def B10 : PV := (.bool true)
def L11 : Calls1 := (61, A10, B10) :: L10
theorem k11 : MemoOk Tryz.prog L11 := k10.call tb0_ok (n := 200) (by kernel_rfl)
def A11 : List PV := [V16, V13]
def B11 : PV := (.bool true)
def L12 : Calls1 := (61, A11, B11) :: L11
theorem k12 : MemoOk Tryz.prog L12 := k11.call tb0_ok (n := 200) (by kernel_rfl)
def A12 : List PV := [V17]
def B12 : PV := (iP 0)
def L13 : Calls1 := (21, A12, B12) :: L12
theorem k13 : MemoOk Tryz.prog L13 := k12.call tb0_ok (n := 200) (by kernel_rfl)
def A13 : List PV := [(.agg [(iP 1), (iP 192), (iP 0), V12, V14])]
def B13 : PV := (.bool true)
def L14 : Calls1 := (57, A13, B13) :: L13
theorem k14 : MemoOk Tryz.prog L14 := k13.call tb0_ok (n := 200) (by kernel_rfl)
def A14 : List PV := [(.agg [(iP 1), (iP 192), (iP 0), V13, V14])]
def B14 : PV := (.bool true)
def L15 : Calls1 := (57, A14, B14) :: L14
theorem k15 : MemoOk Tryz.prog L15 := k14.call tb0_ok (n := 200) (by kernel_rfl)
def A15 : List PV := [(.agg [(iP 1), (iP 192), (iP 0), V12, V14])]
def B15 : PV := V12
def L16 : Calls1 := (59, A15, B15) :: L15
theorem k16 : MemoOk Tryz.prog L16 := k15.call tb0_ok (n := 200) (by kernel_rfl)
def A16 : List PV := [(.agg [(iP 1), (iP 192), (iP 0), V13, V14])]
def B16 : PV := V13
def L17 : Calls1 := (59, A16, B16) :: L16
theorem k17 : MemoOk Tryz.prog L17 := k16.call tb0_ok (n := 200) (by kernel_rfl)
def A17 : List PV := [V15]
def B17 : PV := V21
def L18 : Calls1 := (60, A17, B17) :: L17
theorem k18 : MemoOk Tryz.prog L18 := k17.call tb0_ok (n := 200) (by kernel_rfl)
def A18 : List PV := [V21, V12]
def B18 : PV := (.bool true)
def L19 : Calls1 := (61, A18, B18) :: L18
theorem k19 : MemoOk Tryz.prog L19 := k18.call tb0_ok (n := 200) (by kernel_rfl)
def A19 : List PV := [V21, V13]
def B19 : PV := (.bool true)
def L20 : Calls1 := (61, A19, B19) :: L19
theorem k20 : MemoOk Tryz.prog L20 := k19.call tb0_ok (n := 200) (by kernel_rfl)
def A20 : List PV := [V15]
def B20 : PV := (iP 0)
def L21 : Calls1 := (21, A20, B20) :: L20
theorem k21 : MemoOk Tryz.prog L21 := k20.call tb0_ok (n := 200) (by kernel_rfl)
def A21 : List PV := [V15, (iP 0)]
def B21 : PV := (iP 0)
def L22 : Calls1 := (75, A21, B21) :: L21
theorem k22 : MemoOk Tryz.prog L22 := k21.call tb0_ok (n := 200) (by kernel_rfl)
def A22 : List PV := [V25]
def B22 : PV := V10
def L23 : Calls1 := (60, A22, B22) :: L22
theorem k23 : MemoOk Tryz.prog L23 := k22.call tb0_ok (n := 200) (by kernel_rfl)
def A23 : List PV := [V10, (iP 0)]
def B23 : PV := V29
def L24 : Calls1 := (69, A23, B23) :: L23
theorem k24 : MemoOk Tryz.prog L24 := k23.call tb0_ok (n := 200) (by kernel_rfl)
def A24 : List PV := [V10, V23]
def B24 : PV := (.list .any 3 [(iP 1), (iP 0), (iP 0)])
def L25 : Calls1 := (91, A24, B24) :: L24
theorem k25 : MemoOk Tryz.prog L25 := k24.call tb0_ok (n := 200) (by kernel_rfl)
def A25 : List PV := [V10, V31]
def B25 : PV := (.list .any 3 [(iP 2), (iP 0), (iP 0)])
def L26 : Calls1 := (91, A25, B25) :: L25
theorem k26 : MemoOk Tryz.prog L26 := k25.call tb0_ok (n := 200) (by kernel_rfl)
def A26 : List PV := [V10, (.agg [(iP 2), (iP 0), (iP 0)])]
def B26 : PV := (.list .any 3 [(iP 3), (iP 0), (iP 0)])
def L27 : Calls1 := (91, A26, B26) :: L26
theorem k27 : MemoOk Tryz.prog L27 := k26.call tb0_ok (n := 200) (by kernel_rfl)
def A27 : List PV := [V10, (.agg [(iP 3), (iP 0), (iP 0)])]
def B27 : PV := (.list .any 3 [])
def L28 : Calls1 := (91, A27, B27) :: L27
theorem k28 : MemoOk Tryz.prog L28 := k27.call tb0_ok (n := 200) (by kernel_rfl)
def A28 : List PV := [V10, (iP 0), V23, V22]
def B28 : PV := V18
def L29 : Calls1 := (85, A28, B28) :: L28
theorem c28 : Go.Proofs.YtiaeckidlmoohaaGreat.PM.ncall (tb0.withMemo L28) 200 pf85 A28 B28 = true := by kernel_rfl
theorem k29 : MemoOk Tryz.prog L29 := k28.ncall tb0_ok pf85_ok nx85 c28
def A29 : List PV := [V18, V23]
def B29 : PV := (.tup [V31, (.bool true)])
def L30 : Calls1 := (86, A29, B29) :: L29
theorem k30 : MemoOk Tryz.prog L30 := k29.call tb0_ok (n := 200) (by kernel_rfl)
def A30 : List PV := [(iP 0)]
def B30 : PV := (.tup [(iP 0), (iP 2), (iP 0)])
def L31 : Calls1 := (149, A30, B30) :: L30
theorem k31 : MemoOk Tryz.prog L31 := k30.call tb0_ok (n := 200) (by kernel_rfl)
def A31 : List PV := [V20, V7]
def B31 : PV := (.tup [(.list .any 2 [(iP 0), (.list .any 1 [(iP 0), (iP 8), (iP 16), (iP 24)])]), (iP 0)])
def L32 : Calls1 := (145, A31, B31) :: L31
theorem k32 : MemoOk Tryz.prog L32 := k31.call tb0_ok (n := 200) (by kernel_rfl)
def A32 : List PV := [V25]
def B32 : PV := V9
def L33 : Calls1 := (97, A32, B32) :: L32
theorem k33 : MemoOk Tryz.prog L33 := k32.call tb0_ok (n := 200) (by kernel_rfl)
def A33 : List PV := [V10, (iP 0), V9]
def B33 : PV := (.list .any 1 [(iP 0)])
def L34 : Calls1 := (98, A33, B33) :: L33
theorem k34 : MemoOk Tryz.prog L34 := k33.call tb0_ok (n := 200) (by kernel_rfl)
def A34 : List PV := [V25, (iP 0), V22]
def B34 : PV := (.tup [V31, V14, (iP 0)])
def L35 : Calls1 := (77, A34, B34) :: L34
theorem k35 : MemoOk Tryz.prog L35 := k34.call tb0_ok (n := 200) (by kernel_rfl)
def A35 : List PV := [V15, (iP 0), V22]
def B35 : PV := (.tup [(.agg [(iP 4), (iP 4), V1, V0, V7, V8, (.list .any 5 [(iP 1), (iP 192), (iP 0), (.list .any 3 [(iP 1), (iP 0), (iP 0)]), V14, (iP 1), (iP 192), (iP 0), V13, V14])]), (iP 0), (iP 0)])
def L36 : Calls1 := (25, A35, B35) :: L35
theorem k36 : MemoOk Tryz.prog L36 := k35.call tb0_ok (n := 200) (by kernel_rfl)
def A36 : List PV := [V15, (iP 1)]
def B36 : PV := (iP 0)
def L37 : Calls1 := (75, A36, B36) :: L36
theorem k37 : MemoOk Tryz.prog L37 := k36.call tb0_ok (n := 200) (by kernel_rfl)
def A37 : List PV := [V26]
def B37 : PV := V11
def L38 : Calls1 := (60, A37, B37) :: L37
theorem k38 : MemoOk Tryz.prog L38 := k37.call tb0_ok (n := 200) (by kernel_rfl)
def A38 : List PV := [V11, (iP 1)]
def B38 : PV := V30
def L39 : Calls1 := (69, A38, B38) :: L38
theorem k39 : MemoOk Tryz.prog L39 := k38.call tb0_ok (n := 200) (by kernel_rfl)
def A39 : List PV := [V11, V24]
def B39 : PV := (.list .any 3 [(iP 2), (iP 0), (iP 2)])
def L40 : Calls1 := (91, A39, B39) :: L39
theorem k40 : MemoOk Tryz.prog L40 := k39.call tb0_ok (n := 200) (by kernel_rfl)
def A40 : List PV := [V11, V32]
def B40 : PV := (.list .any 3 [(iP 1), (iP 0), (iP 2)])
def L41 : Calls1 := (91, A40, B40) :: L40
theorem k41 : MemoOk Tryz.prog L41 := k40.call tb0_ok (n := 200) (by kernel_rfl)
def A41 : List PV := [V11, (.agg [(iP 1), (iP 0), (iP 2)])]
def B41 : PV := (.list .any 3 [(iP 0), (iP 0), (iP 2)])
def L42 : Calls1 := (91, A41, B41) :: L41
theorem k42 : MemoOk Tryz.prog L42 := k41.call tb0_ok (n := 200) (by kernel_rfl)
def A42 : List PV := [V11, (.agg [(iP 0), (iP 0), (iP 2)])]
def B42 : PV := (.list .any 3 [])
def L43 : Calls1 := (91, A42, B42) :: L42
theorem k43 : MemoOk Tryz.prog L43 := k42.call tb0_ok (n := 200) (by kernel_rfl)
def A43 : List PV := [V11, (iP 1), V24, V22]
def B43 : PV := V19
def L44 : Calls1 := (85, A43, B43) :: L43
theorem c43 : Go.Proofs.YtiaeckidlmoohaaGreat.PM.ncall (tb0.withMemo L43) 200 pf85 A43 B43 = true := by kernel_rfl
theorem k44 : MemoOk Tryz.prog L44 := k43.ncall tb0_ok pf85_ok nx85 c43
def A44 : List PV := [V19, V24]
def B44 : PV := (.tup [V32, (.bool true)])
def L45 : Calls1 := (86, A44, B44) :: L44
theorem k45 : MemoOk Tryz.prog L45 := k44.call tb0_ok (n := 200) (by kernel_rfl)
def A45 : List PV := [V26]
def B45 : PV := V9
def L46 : Calls1 := (97, A45, B45) :: L45
theorem k46 : MemoOk Tryz.prog L46 := k45.call tb0_ok (n := 200) (by kernel_rfl)
def A46 : List PV := [V11, (iP 1), V9]
def B46 : PV := (.list .any 1 [(iP 0)])
def L47 : Calls1 := (98, A46, B46) :: L46
theorem k47 : MemoOk Tryz.prog L47 := k46.call tb0_ok (n := 200) (by kernel_rfl)
def A47 : List PV := [V26, (iP 1), V22]
def B47 : PV := (.tup [V32, V14, (iP 0)])
def L48 : Calls1 := (77, A47, B47) :: L47
theorem k48 : MemoOk Tryz.prog L48 := k47.call tb0_ok (n := 200) (by kernel_rfl)
def A48 : List PV := [V15, (iP 1), V22]
def B48 : PV := (.tup [(.agg [(iP 4), (iP 4), V1, V0, V7, V8, (.list .any 5 [(iP 1), (iP 192), (iP 0), V12, V14, (iP 1), (iP 192), (iP 0), (.list .any 3 [(iP 2), (iP 0), (iP 2)]), V14])]), (iP 0), (iP 0)])
def L49 : Calls1 := (25, A48, B48) :: L48
theorem k49 : MemoOk Tryz.prog L49 := k48.call tb0_ok (n := 200) (by kernel_rfl)
def A49 : List PV := [V17, (.list .ex 1 [V22, V22])]
def B49 : PV := (.tup [(.list .any 1 [(iP (-1)), (iP (-1))]), (iP 0)])
def L50 : Calls1 := (28, A49, B49) :: L49
theorem k50 : MemoOk Tryz.prog L50 := k49.call tb0_ok (n := 200) (by kernel_rfl)
def A50 : List PV := [(.list .ex 1 [(iP 1), (iP 0)])]
def B50 : PV := (.tup [(.list .any 1 [(iP 0), (iP 1)]), (iP 0)])
def L51 : Calls1 := (31, A50, B50) :: L50
theorem k51 : MemoOk Tryz.prog L51 := k50.call tb0_ok (n := 200) (by kernel_rfl)
def A51 : List PV := [V16, (iP 0)]
def B51 : PV := V29
def L52 : Calls1 := (69, A51, B51) :: L51
theorem k52 : MemoOk Tryz.prog L52 := k51.call tb0_ok (n := 200) (by kernel_rfl)
def A52 : List PV := [V16, (iP 1)]
def B52 : PV := V30
def L53 : Calls1 := (69, A52, B52) :: L52
theorem k53 : MemoOk Tryz.prog L53 := k52.call tb0_ok (n := 200) (by kernel_rfl)
def A53 : List PV := [V17]
def B53 : PV := (.tup [(.bool true), (iP 0)])
def L54 : Calls1 := (23, A53, B53) :: L53
theorem k54 : MemoOk Tryz.prog L54 := k53.call tb0_ok (n := 200) (by kernel_rfl)
def A54 : List PV := []
def B54 : PV := (.bool true)
def L55 : Calls1 := (20, A54, B54) :: L54
theorem k55 : MemoOk Tryz.prog L55 := k54.call tb0_ok (n := 200) (by kernel_rfl)
theorem known0 : PureOk Tryz.prog 20 [] (.bool true) := k55 20 [] (.bool true) (by kernel_rfl)
def LK : Calls1 := [(20, [], .bool true)]
def tb : Table := tb0.withMemo LK
end Go.Proofs.YtiaeckidlmoohaaGreat
