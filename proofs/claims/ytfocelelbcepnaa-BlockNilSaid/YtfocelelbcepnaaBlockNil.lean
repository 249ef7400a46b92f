/- Blocks: a Map that New did not make. -/
import Derived.Test.YtfocelelbcepnaaBlockLaw1
set_option linter.unusedVariables false
set_option linter.unusedSimpArgs false
set_option maxHeartbeats 4000000
set_option maxRecDepth 20000
namespace Go.Proofs.Ytfocelelbcepnaa
open Go.Proofs.Ytfocelelbcepnaa.PM

abbrev zM : PV := .pptr false [.int .i64 0, .int .i64 0, .list .nil 1 [], .list .nil 1 [], .list .nil 4 [], .list .nil 1 []] 0
theorem made_nil : R tb 68 [.nilptr] = some (.bool false) := R_of (n := 60) (by kernel_rfl)
theorem made_z : R tb 68 [zM] = some (.bool false) := R_of (n := 60) (by kernel_rfl)
def isM (m : PV) : Prop := m = .nilptr ∨ m = zM
theorem made0 {m : PV} (h : isM m) : R tb 68 [m] = some (.bool false) ∧ frz [] .bor 64 m = some m := by
  rcases h with rfl | rfl
  · exact ⟨made_nil, rfl⟩
  · exact ⟨made_z, rfl⟩
section
variable {m : PV} (h : isM m)
include h
theorem ofM0 (t p : Int) : R tb 33 [m, .int .i64 t, .int .i64 p] = some (.tup [.int .i64 0, .int .i64 1]) := by
  obtain ⟨h1, h2⟩ := made0 h
  refine R_of_G (F := pf33) rfl rfl rfl ?_
  simp (disch := first | omega | with_unfolding_all rfl) [pf33, env0_eq, h1, h2]
theorem layM0 (t p : Int) : R tb 34 [m, .int .i64 t, .int .i64 p] = some (.int .i64 1) := by
  obtain ⟨h1, h2⟩ := made0 h
  refine R_of_G (F := pf34) rfl rfl rfl ?_
  simp (disch := first | omega | with_unfolding_all rfl) [pf34, env0_eq, h1, h2]
theorem liftM0 (t p : Int) : R tb 35 [m, .int .i64 t, .int .i64 p] = some (.int .i64 1) := by
  obtain ⟨h1, h2⟩ := made0 h
  refine R_of_G (F := pf35) rfl rfl rfl ?_
  simp (disch := first | omega | with_unfolding_all rfl) [pf35, env0_eq, h1, h2]
theorem putM0 (a b c d : Int) : R tb 36 [m, .agg [.int .i64 a, .int .i64 b, .int .i64 c, .int .i64 d]] = some (.int .i64 1) := by
  obtain ⟨h1, h2⟩ := made0 h
  refine R_of_G (F := pf36) rfl rfl rfl ?_
  simp (disch := first | omega | with_unfolding_all rfl) [pf36, env0_eq, h1, h2]
theorem takeM0 (a b c : Int) : R tb 37 [m, .int .i64 a, .int .i64 b, .int .i64 c] = some (.int .i64 1) := by
  obtain ⟨h1, h2⟩ := made0 h
  refine R_of_G (F := pf37) rfl rfl rfl ?_
  simp (disch := first | omega | with_unfolding_all rfl) [pf37, env0_eq, h1, h2]
theorem blocksM0 : R tb 38 [m] = some (.list .nil 1 []) := by
  obtain ⟨h1, h2⟩ := made0 h
  refine R_of_G (F := pf38) rfl rfl rfl ?_
  simp (disch := first | omega | with_unfolding_all rfl) [pf38, env0_eq, h1, h2]
end
theorem law11_ok (a b c d : Int) : R tb 11 [.int .i64 a, .int .i64 b, .int .i64 c, .int .i64 d] = some (.bool true) := by
  have n : isM .nilptr := .inl rfl
  have z : isM zM := .inr rfl
  have hN : (!Nl.nil != Nl.bor) = false := rfl
  refine R_of_G (F := pf11) rfl rfl rfl ?_
  simp (disch := first | omega | with_unfolding_all rfl) [pf11, env0_eq, hN, ofM0 n, ofM0 z, layM0 n, layM0 z, liftM0 n, liftM0 z, putM0 n, putM0 z, takeM0 n, takeM0 z, blocksM0 n, blocksM0 z, known_ok]
end Go.Proofs.Ytfocelelbcepnaa
