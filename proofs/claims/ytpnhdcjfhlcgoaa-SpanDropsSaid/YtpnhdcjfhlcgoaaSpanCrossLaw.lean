/- Spans: the law of crossing. -/
import Derived.Test.YtpnhdcjfhlcgoaaSpanCrossR
set_option linter.unusedVariables false
set_option linter.unusedSimpArgs false
set_option maxHeartbeats 4000000
set_option maxRecDepth 20000
namespace Go.Proofs.Ytpnhdcjfhlcgoaa
open Go.Proofs.Ytpnhdcjfhlcgoaa.PM

theorem far_ok {l : Ld} (hf : l.nl ≠ .bor) (hb : l.xs.length ≤ maxLen) {snl : Nl} {ss : List Sp} (hs : ss.length ≤ maxLen) : R tb 12 [vL l, lst snl ss] = some (.bool (decide (3000 < l.xs.length) || decide (300 < ss.length))) := by
  obtain ⟨w, hh, nl, xs⟩ := l
  have hm : maxLen = 9223372036854775807 := rfl
  dsimp only at hf hb
  refine R_of_G (F := pf12) rfl rfl rfl ?_
  simp (disch := first | omega | with_unfolding_all rfl) [pf12, env0_eq, hf]
  by_cases c : (3000 : Int) < xs.length
  · have c' : 3000 < xs.length := by omega
    simp (disch := first | omega | with_unfolding_all rfl) [c, c']
  · have c' : ¬ 3000 < xs.length := by omega
    simp (disch := first | omega | with_unfolding_all rfl) [c, c']
    by_cases d : (300 : Int) < ss.length
    · have d' : 300 < ss.length := by omega
      simp [d, d']
    · have d' : ¬ 300 < ss.length := by omega
      simp [d, d']
theorem crosses_ok {l : Ld} (hf : l.nl ≠ .bor) (hb : l.xs.length ≤ maxLen) {snl : Nl} {ss : List Sp} (hs : ss.length ≤ maxLen) (n side : Int) : R tb 5 [vL l, lst snl ss, .int .i64 n, .int .i64 side] = some (.bool true) := by
  have h0 := far_ok hf hb (snl := snl) hs
  have h1 := fun (h : l.xs.length ≤ 3000) (h' : ss.length ≤ 300) => cross_ok hf h (snl := snl) h' n side
  have h2 := fun (h : l.xs.length ≤ 3000) (h' : ss.length ≤ 300) => crossR_ok hf h (snl := snl) h' n side
  generalize crI l ss n side = re at *
  obtain ⟨w, hh, nl, xs⟩ := l
  dsimp only at hf hb h0 h1 h2
  refine R_of_G (F := pf5) rfl rfl rfl ?_
  by_cases c : 3000 < xs.length ∨ 300 < ss.length
  · have hc : (decide (3000 < xs.length) || decide (300 < ss.length)) = true := by simpa using c
    rw [hc] at h0
    simp (disch := first | omega | with_unfolding_all rfl) [pf5, env0_eq, hf, h0, known_ok]
  · have hc : (decide (3000 < xs.length) || decide (300 < ss.length)) = false := by simp; omega
    rw [hc] at h0
    simp (disch := first | omega | with_unfolding_all rfl) [pf5, env0_eq, hf, h0, known_ok, h1 (by omega) (by omega), h2 (by omega) (by omega)]
end Go.Proofs.Ytpnhdcjfhlcgoaa
