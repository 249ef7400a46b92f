/- Trains: how many bits a small number has; the table of functions is right. -/
import Derived.Test.YtiaeckidlmoohaaGreatTrainTab
import Derived.Test.YtiaeckidlmoohaaGreatPmNineteen
import Derived.Shelf.RegionOpenPlain
import Derived.WalkKit
import Derived.Deep.LoopGhost
import Derived.Deep.RegionLaw
import Derived.Deep.MidRow
import Derived.Lib.Walk
import Derived.Sort.WalkB12
import Derived.Lib.SliceRun
set_option linter.unusedVariables false
set_option linter.unusedSimpArgs false
namespace Go.Proofs.YtiaeckidlmoohaaGreat
open Go.Shelf Go.RowKit Go.Lib Go.Sort
set_option maxHeartbeats 8000000 in
set_option maxRecDepth 100000 in
theorem len64_walk (n : Nat) (hn : n ≤ 12) (w : World) : Calls Tryz.prog 181 #[.int .u64 n] w fun e w' => e = .returned (.int .i64 (lenB n)) ∧ w' = w := by
  have : n = 0 ∨ n = 1 ∨ n = 2 ∨ n = 3 ∨ n = 4 ∨ n = 5 ∨ n = 6 ∨ n = 7 ∨ n = 8 ∨ n = 9 ∨ n = 10 ∨ n = 11 ∨ n = 12 := by omega
  rcases this with rfl | rfl | rfl | rfl | rfl | rfl | rfl | rfl | rfl | rfl | rfl | rfl | rfl
  all_goals
    go_enter Tryz.func181, Tryz.ntmps181
    go_wp2
    go_ret
    exact ⟨by kernel_rfl, rfl⟩
open Go.Proofs.YtiaeckidlmoohaaGreat.PM
set_option maxRecDepth 20000 in
theorem natP_ok : ∀ f args r, natP f args = some r → PureOk Tryz.prog f args r := by
  intro f args r h
  unfold natP at h
  split at h
  case isFalse => cases h
  rename_i hf
  subst hf
  split at h
  case h_2 => cases h
  rename_i n
  split at h
  case isFalse => cases h
  rename_i hn
  simp only [Option.some.injEq] at h
  subst h
  obtain ⟨N, rfl⟩ : ∃ N : Nat, n = N := ⟨n.toNat, by omega⟩
  refine ⟨⟨Tryz.f181, rfl, by decide, rfl⟩, fun w Z Y vs hl hr => ?_⟩
  obtain ⟨v, l, e, hv, hl2⟩ := hr
  have : vs = #[.int .u64 N] := by
    apply Array.ext'
    rw [e, show v = .int .u64 N from hv, show l = [] from hl2]
  subst this
  refine (len64_walk N (by omega) w).mono ?_
  rintro e w' ⟨rfl, rfl⟩
  exact ⟨_, rfl, Below.refl _ _, rfl⟩
theorem tb0_ok : TOk Tryz.prog tb0 := ⟨tb0_fns, natP_ok, fun _ _ _ _ _ h => (by cases h), fun _ _ _ h => (by cases h), fun _ _ _ h => (by cases h), (by kernel_rfl)⟩
end Go.Proofs.YtiaeckidlmoohaaGreat
