/- Trains: the laws of rings. -/
import Derived.Test.YtiaeckidlmoohaaGreatTrainRing2
set_option linter.unusedVariables false
set_option linter.unusedSimpArgs false
set_option maxHeartbeats 4000000
set_option maxRecDepth 20000
namespace Go.Proofs.YtiaeckidlmoohaaGreat
open Go.Proofs.YtiaeckidlmoohaaGreat.PM

/-- The same lists. -/
theorem sameInts_ok {n1 n2 : Nl} (xs : List Int) (h : xs.length ≤ 100000) : R tb 30 [lst n1 xs, lst n2 xs] = some (.bool true) := by
  refine R_of_G (F := pf30) rfl rfl rfl ?_
  simp (disch := first | omega | with_unfolding_all rfl) [pf30, env0_eq]
  refine G_scanC [0, 1] 5 (fun _ => false) xs.length 0 (by simp) (Nat.zero_le _) ?_
  rintro i e - hi hz hk g5
  simp at hk
  simp (disch := first | omega | with_unfolding_all rfl) [hk, g5]
  refine G_brd (fun c => ?_) (fun c => ?_)
  · simp (disch := first | omega | with_unfolding_all rfl) [hk, g5, c]
  · simp (disch := first | omega | with_unfolding_all rfl) [hk, g5, c]
theorem sameNil_ok : R tb 30 [.list .nil 1 [], .list .nil 1 []] = some (.bool true) := R_of (n := 60) (by kernel_rfl)
theorem law7_ok (nl : Nl) (ws : List Int) : R tb 7 [lst nl ws] = some (.bool true) := by
  refine R_of_G (F := pf7) rfl rfl rfl ?_
  by_cases c : 1100 < (ws.length : Int)
  · simp (disch := first | omega | with_unfolding_all rfl) [pf7, env0_eq, c, known_ok]
  have h1 := ring_ok (nl := nl) ws (by omega)
  have h2 := refRing_ok (nl := nl) ws (by omega)
  rw [ringV_eq] at h1
  cases hv : okW ws
  · have : ringV pR ws = .tup [.list .nil 1 [], .int .i64 1] := by rw [ringV, if_neg (by simp [hv])]
    rw [this] at h1 h2
    simp (disch := first | omega | with_unfolding_all rfl) [pf7, env0_eq, c, known_ok, h1, h2, sameNil_ok]
  · have : ringV pR ws = .tup [lst .any (rl (pR ws) ws.length), .int .i64 0] := by rw [ringV, if_pos hv]
    rw [this] at h1 h2
    have hl := rl_len (pR ws) ws.length
    have hs := sameInts_ok (n1 := .any) (n2 := .any) (rl (pR ws) ws.length) (by omega)
    simp (disch := first | omega | with_unfolding_all rfl) [pf7, env0_eq, c, known_ok, h1, h2, hs]
/-- Is a number among these? -/
def inL (xs : List Int) (n : Int) : Bool := xs.any fun x => decide (x = n)
theorem hits_ok {nl : Nl} (xs : List Int) (h : xs.length ≤ 100000) (n : Int) : R tb 33 [lst nl xs, .int .i64 n] = some (.bool (inL xs n)) := by
  refine R_of_G (F := pf33) rfl rfl rfl ?_
  simp (disch := first | omega | with_unfolding_all rfl) [pf33, env0_eq]
  refine G_scanC [1, 7, 8] 9 (fun i => decide (wv xs i = n)) xs.length 0 (by simp) (Nat.zero_le _) ?_
  rintro i e - hi hz hk g9
  simp at hk
  obtain ⟨g1, g7, g8⟩ := hk
  simp (disch := first | omega | with_unfolding_all rfl) [g1, g7, g8, g9]
  refine G_brd (fun c => ?_) (fun c => ?_)
  · simp (disch := first | omega | with_unfolding_all rfl) [g1, g7, g8, g9, c, wv_get]
    by_cases d : wv xs i = n
    · have : inL xs n = true := List.any_eq_true.2 ⟨xs[i]'(by omega), List.getElem_mem _, by rw [wv_get]; exact decide_eq_true d⟩
      simp (disch := first | omega | with_unfolding_all rfl) [g1, g7, g8, g9, c, d, this]
    · simp (disch := first | omega | with_unfolding_all rfl) [g1, g7, g8, g9, c, d]
  · have : inL xs n = false := by
      refine List.any_eq_false.2 fun x hx => ?_
      obtain ⟨j, hj, rfl⟩ := List.mem_iff_getElem.1 hx
      have := hz j (Nat.zero_le _) (by omega)
      rw [wv_get]
      simpa using this
    simp (disch := first | omega | with_unfolding_all rfl) [g1, g7, g8, g9, c, this]
end Go.Proofs.YtiaeckidlmoohaaGreat
