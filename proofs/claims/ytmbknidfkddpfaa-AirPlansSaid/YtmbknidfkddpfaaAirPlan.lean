/- The airports that are planned. -/
import Derived.Test.YtmbknidfkddpfaaAirVal
set_option linter.unusedVariables false
set_option linter.unusedSimpArgs false
set_option maxHeartbeats 1000000
namespace Go.Proofs.Ytmbknidfkddpfaa
open Go.Proofs.Ytmbknidfkddpfaa.PM

def nf : PV := .agg [.list .nil 2 [], .int .i64 0]
theorem plan_no (k : Int) (h0 : k ≠ 0) (h1 : k ≠ 1) (h2 : k ≠ 2) : R tb 28 [.int .i64 k] = some (.tup [nf, .int .i64 1]) := by
  refine R_of_G (F := pf28) rfl rfl rfl ?_
  simp (disch := omega) [pf28, env0_eq, h0, h1, h2, nf]
theorem refPlan_no (k : Int) (h0 : k ≠ 0) (h1 : k ≠ 1) (h2 : k ≠ 2) : R tb 29 [.int .i64 k] = some (.tup [nf, .int .i64 1]) := by
  refine R_of_G (F := pf29) rfl rfl rfl ?_
  simp (disch := omega) [pf29, env0_eq, h0, h1, h2, nf]
theorem same_no : R tb 30 [nf, nf] = some (.bool true) := R_of (n := 200) (by kernel_rfl)
theorem open_no : R tb 31 [nf] = some (.tup [.bool false, .int .i64 2]) := R_of (n := 300) (by kernel_rfl)
def nd (k : Int) (l : List Int) : List PV := [.int .i64 k, lst .ex l]
def fd0 : PV := .agg [.list .ex 2 (nd 0 [1] ++ nd 1 [0, 2] ++ nd 3 [1]), .int .i64 0]
def fd1 : PV := .agg [.list .ex 2 (nd 0 [1] ++ nd 1 [0, 2] ++ nd 2 [1, 3, 4] ++ nd 3 [2] ++ nd 3 [2]), .int .i64 0]
def fd2 : PV := .agg [.list .ex 2 (nd 0 [1] ++ nd 1 [3] ++ nd 1 [0] ++ nd 2 [4] ++ nd 2 [2, 5, 6, 7] ++ nd 3 [4] ++ nd 3 [4] ++ nd 3 [4]), .int .i64 0]
theorem plan_0 : R tb 28 [.int .i64 0] = some (.tup [fd0, .int .i64 0]) := R_of (n := 100) (by kernel_rfl)
theorem plan_1 : R tb 28 [.int .i64 1] = some (.tup [fd1, .int .i64 0]) := R_of (n := 100) (by kernel_rfl)
theorem plan_2 : R tb 28 [.int .i64 2] = some (.tup [fd2, .int .i64 0]) := R_of (n := 100) (by kernel_rfl)
theorem refPlan_0 : R tb 29 [.int .i64 0] = some (.tup [fd0, .int .i64 0]) := R_of (n := 100) (by kernel_rfl)
theorem refPlan_1 : R tb 29 [.int .i64 1] = some (.tup [fd1, .int .i64 0]) := R_of (n := 100) (by kernel_rfl)
theorem refPlan_2 : R tb 29 [.int .i64 2] = some (.tup [fd2, .int .i64 0]) := R_of (n := 100) (by kernel_rfl)
theorem same_0 : R tb 30 [fd0, fd0] = some (.bool true) := R_of (n := 200) (by kernel_rfl)
theorem same_1 : R tb 30 [fd1, fd1] = some (.bool true) := R_of (n := 200) (by kernel_rfl)
theorem same_2 : R tb 30 [fd2, fd2] = some (.bool true) := R_of (n := 200) (by kernel_rfl)
theorem open_0 : R tb 31 [fd0] = some (.tup [.bool true, .int .i64 0]) := R_of (n := 300) (by kernel_rfl)
theorem open_1 : R tb 31 [fd1] = some (.tup [.bool true, .int .i64 0]) := R_of (n := 300) (by kernel_rfl)
theorem open_2 : R tb 31 [fd2] = some (.tup [.bool true, .int .i64 0]) := R_of (n := 300) (by kernel_rfl)
theorem plan_run (k : Int) (l : List PV) (hp : R tb 28 [.int .i64 k] = some (.tup [.agg [.list .ex 2 l, .int .i64 0], .int .i64 0])) (hr : R tb 29 [.int .i64 k] = some (.tup [.agg [.list .ex 2 l, .int .i64 0], .int .i64 0]))
    (hs : R tb 30 [.agg [.list .ex 2 l, .int .i64 0], .agg [.list .ex 2 l, .int .i64 0]] = some (.bool true)) (ho : R tb 31 [.agg [.list .ex 2 l, .int .i64 0]] = some (.tup [.bool true, .int .i64 0])) : R tb 10 [.int .i64 k] = some (.bool true) := by
  refine R_of_G (F := pf10) rfl rfl rfl ?_
  simp (disch := omega) [pf10, env0_eq, hp, hr, hs, ho, known_ok]
theorem plans_ok (k : Int) : R tb 10 [.int .i64 k] = some (.bool true) := by
  by_cases h0 : k = 0
  · rw [h0]; exact plan_run _ _ plan_0 refPlan_0 same_0 open_0
  by_cases h1 : k = 1
  · rw [h1]; exact plan_run _ _ plan_1 refPlan_1 same_1 open_1
  by_cases h2 : k = 2
  · rw [h2]; exact plan_run _ _ plan_2 refPlan_2 same_2 open_2
  have a := same_no
  have b := open_no
  have c := plan_no k h0 h1 h2
  have d := refPlan_no k h0 h1 h2
  unfold nf at a b c d
  refine R_of_G (F := pf10) rfl rfl rfl ?_
  simp (disch := omega) [pf10, env0_eq, a, b, c, d, known_ok]
end Go.Proofs.Ytmbknidfkddpfaa
