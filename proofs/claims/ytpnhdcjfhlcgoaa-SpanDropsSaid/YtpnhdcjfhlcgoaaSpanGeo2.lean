/- Spans: bases, slopes. -/
import Derived.Test.YtpnhdcjfhlcgoaaSpanGeo
set_option linter.unusedVariables false
set_option linter.unusedSimpArgs false
set_option maxHeartbeats 4000000
set_option maxRecDepth 20000
namespace Go.Proofs.Ytpnhdcjfhlcgoaa
open Go.Proofs.Ytpnhdcjfhlcgoaa.PM

def lo4 (a b c d : Int) : Int := min (min (min a b) c) d
def hi4 (a b c d : Int) : Int := max (max (max a b) c) d
def lo (l : Ld) (W t : Nat) : Int := lo4 (cn0 l W t) (cn1 l W t) (cn2 l W t) (cn3 l W t)
def hi (l : Ld) (W t : Nat) : Int := hi4 (cn0 l W t) (cn1 l W t) (cn2 l W t) (cn3 l W t)
theorem frz4 (e : TypeId) (a b c d : Int) : frz [⟨e, 0, [.int .i64 a, .int .i64 b, .int .i64 c, .int .i64 d]⟩] .bor 64 (.msl false 0 0 0 4 1) = some (lst .bor [a, b, c, d]) := by rfl
theorem base_ok {l : Ld} {W H t : Nat} (hf : l.nl ≠ .bor) (g : Good l W H) (ht : t < W * H) : R tb 67 [vL l, .int .i64 (t : Int)] = some (.tup [.int .i64 (lo l W t), .int .i64 (hi l W t)]) := by
  have hc := corners_ok hf g ht
  obtain ⟨w, hh, nl, xs⟩ := l
  dsimp only [vC] at hf hc
  unfold lo hi
  generalize cn0 ⟨w, hh, nl, xs⟩ W t = a at *
  generalize cn1 ⟨w, hh, nl, xs⟩ W t = b at *
  generalize cn2 ⟨w, hh, nl, xs⟩ W t = c at *
  generalize cn3 ⟨w, hh, nl, xs⟩ W t = d at *
  refine R_of_G (F := pf67) rfl rfl rfl ?_
  simp (disch := first | omega | with_unfolding_all rfl) [pf67, env0_eq, hf, hc, min_ok, max_ok, lo4, hi4, evSlcA, optIx, frz4]
theorem baseR_ok {l : Ld} {W H t : Nat} (hf : l.nl ≠ .bor) (g : Good l W H) (ht : t < W * H) : R tb 56 [vL l, .int .i64 (t : Int)] = some (.int .i64 (lo l W t)) := by
  have hc := cornersR_ok hf g ht
  obtain ⟨w, hh, nl, xs⟩ := l
  dsimp only [vC] at hf hc
  unfold lo
  generalize cn0 ⟨w, hh, nl, xs⟩ W t = a at *
  generalize cn1 ⟨w, hh, nl, xs⟩ W t = b at *
  generalize cn2 ⟨w, hh, nl, xs⟩ W t = c at *
  generalize cn3 ⟨w, hh, nl, xs⟩ W t = d at *
  refine R_of_G (F := pf56) rfl rfl rfl ?_
  simp (disch := first | omega | with_unfolding_all rfl) [pf56, env0_eq, hf, hc, lo4, ifmin, evIaA, ixIn, evFaddr]
end Go.Proofs.Ytpnhdcjfhlcgoaa
