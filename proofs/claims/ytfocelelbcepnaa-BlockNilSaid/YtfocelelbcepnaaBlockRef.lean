/- Blocks: near pieces, in the document's words. -/
import Derived.Test.YtfocelelbcepnaaBlockParts2
set_option linter.unusedVariables false
set_option linter.unusedSimpArgs false
set_option maxHeartbeats 4000000
set_option maxRecDepth 20000
namespace Go.Proofs.Ytfocelelbcepnaa
open Go.Proofs.Ytfocelelbcepnaa.PM

theorem touch_ok {p q : Int} (hp : 0 ≤ p ∧ p < 6) (hq : 0 ≤ q ∧ q < 6) : R tb 86 [.int .i64 p, .int .i64 q] = some (.bool (decide (p ≠ q) && !prt p q)) := by
  refine R_of_G (F := pf86) rfl rfl rfl ?_
  simp (disch := first | omega | with_unfolding_all rfl) [pf86, env0_eq]
  by_cases a1 : p = q
  · subst a1
    simp (disch := first | omega | with_unfolding_all rfl)
  by_cases a4 : p < 2
  · have a4' : ¬ 2 ≤ p := by omega
    by_cases a2 : p + q = 6 <;> by_cases a3 : p + q = 8 <;> simp (disch := first | omega | with_unfolding_all rfl) [a1, a2, a3, a4, a4', prt]
  by_cases a5 : q < 2
  · have a5' : ¬ 2 ≤ q := by omega
    by_cases a2 : p + q = 6 <;> by_cases a3 : p + q = 8 <;> simp (disch := first | omega | with_unfolding_all rfl) [a1, a2, a3, a4, a5, a5', prt]
  have a4' : 2 ≤ p := by omega
  have a5' : 2 ≤ q := by omega
  by_cases a2 : p + q = 6
  · have : p - q = 2 ∨ q - p = 2 := by omega
    rcases this with h | h <;> simp (disch := first | omega | with_unfolding_all rfl) [a1, a2, a4, a5, a4', a5', prt, h]
  by_cases a3 : p + q = 8
  · have : p - q = 2 ∨ q - p = 2 := by omega
    rcases this with h | h <;> simp (disch := first | omega | with_unfolding_all rfl) [a1, a2, a3, a4, a5, a4', a5', prt, h]
  have b1 : ¬ p - q = 2 := by omega
  have b2 : ¬ q - p = 2 := by omega
  simp (disch := first | omega | with_unfolding_all rfl) [a1, a2, a3, a4, a5, a4', a5', prt, b1, b2]
/-- The tile beyond a side. -/
def bey (W H t : Nat) (s : Int) : Int :=
  if s = 0 then (if t % W + 1 < W then (t : Int) + 1 else -1) else if s = 1 then (if t / W + 1 < H then (t : Int) + W else -1) else
  if s = 2 then (if 1 ≤ t % W then (t : Int) - 1 else -1) else if s = 3 then (if 1 ≤ t / W then (t : Int) - W else -1) else t
theorem bey_ok {W H t : Nat} {s : Int} (hW : 4 ≤ W ∧ W ≤ 32) (hH : 4 ≤ H ∧ H ≤ 32) (ht : t < W * H) : R tb 87 [.int .i64 W, .int .i64 H, .int .i64 t, .int .i64 s] = some (.int .i64 (bey W H t s)) := by
  have tm : (t : Int).tmod (W : Int) = ((t % W : Nat) : Int) := rfl
  have td : (t : Int).tdiv (W : Int) = ((t / W : Nat) : Int) := rfl
  obtain ⟨a, ha⟩ : ∃ a, a = t % W := ⟨_, rfl⟩
  obtain ⟨b, hb⟩ : ∃ b, b = t / W := ⟨_, rfl⟩
  rw [← ha] at tm
  rw [← hb] at td
  have hal : a < W := by rw [ha]; exact Nat.mod_lt _ (by omega)
  have hbl : b < H := by rw [hb, Nat.div_lt_iff_lt_mul (by omega), Nat.mul_comm]; exact ht
  have hM : W * H ≤ 32 * 32 := Nat.mul_le_mul hW.2 hH.2
  obtain ⟨c, hc⟩ : ∃ c : Nat, c = b * W := ⟨_, rfl⟩
  have hdm : t = c + a := by have := Nat.div_add_mod t W; rw [← ha, ← hb, Nat.mul_comm] at this; omega
  have c0 : (b : Int) * (W : Int) = (c : Int) := by rw [hc]; push_cast; rfl
  have c1 : ((b : Int) + 1) * (W : Int) = (c : Int) + W := by rw [Int.add_mul, c0]; omega
  have c2 : ((b : Int) - 1) * (W : Int) = (c : Int) - W := by rw [Int.sub_mul, c0]; omega
  have hW0 : ¬ W = 0 := by omega
  have hcW : 1 ≤ b → W ≤ c := fun h => by rw [hc]; exact Nat.le_mul_of_pos_left W h
  have r1 : ¬ (a : Int) < 0 := by omega
  have r2 : ¬ (W : Int) ≤ a := by omega
  have r3 : ¬ (b : Int) < 0 := by omega
  have r4 : ¬ (H : Int) ≤ b := by omega
  refine R_of_G (F := pf87) rfl rfl rfl ?_
  simp (disch := first | omega | with_unfolding_all rfl) [pf87, env0_eq, tm, td, hW0, bey, ← ha, ← hb]
  by_cases s0 : s = 0
  · subst s0
    have r5 : ¬ ((a : Int) + 1 < 0) := by omega
    by_cases g : a + 1 < W
    · have g' : ¬ (W : Int) ≤ (a : Int) + 1 := by omega
      simp (disch := first | omega | with_unfolding_all rfl) [tm, td, hW0, g, g', r1, r2, r3, r4, r5, c0]
      omega
    · have g' : (W : Int) ≤ (a : Int) + 1 := by omega
      simp (disch := first | omega | with_unfolding_all rfl) [tm, td, hW0, g, g', r1, r2, r3, r4, r5, c0]
  by_cases s1 : s = 1
  · subst s1
    have r5 : ¬ ((b : Int) + 1 < 0) := by omega
    by_cases g : b + 1 < H
    · have g' : ¬ (H : Int) ≤ (b : Int) + 1 := by omega
      simp (disch := first | omega | with_unfolding_all rfl) [tm, td, hW0, g, g', r1, r2, r3, r4, r5, c1]
      omega
    · have g' : (H : Int) ≤ (b : Int) + 1 := by omega
      simp (disch := first | omega | with_unfolding_all rfl) [tm, td, hW0, g, g', r1, r2, r3, r4, r5, c1]
  by_cases s2 : s = 2
  · subst s2
    have r5 : ¬ ((W : Int) ≤ (a : Int) - 1) := by omega
    by_cases g : 1 ≤ a
    · have g' : ¬ (a : Int) - 1 < 0 := by omega
      simp (disch := first | omega | with_unfolding_all rfl) [tm, td, hW0, g, g', r1, r2, r3, r4, r5, c0]
      omega
    · have g' : (a : Int) - 1 < 0 := by omega
      simp (disch := first | omega | with_unfolding_all rfl) [tm, td, hW0, g, g', r1, r2, r3, r4, r5, c0]
  by_cases s3 : s = 3
  · subst s3
    have r5 : ¬ ((H : Int) ≤ (b : Int) - 1) := by omega
    by_cases g : 1 ≤ b
    · have g' : ¬ (b : Int) - 1 < 0 := by omega
      simp (disch := first | omega | with_unfolding_all rfl) [tm, td, hW0, g, g', r1, r2, r3, r4, r5, c2]
      omega
    · have g' : (b : Int) - 1 < 0 := by omega
      simp (disch := first | omega | with_unfolding_all rfl) [tm, td, hW0, g, g', r1, r2, r3, r4, r5, c2]
  · simp (disch := first | omega | with_unfolding_all rfl) [tm, td, hW0, s0, s1, s2, s3, r1, r2, r3, r4, c0]
    omega
end Go.Proofs.Ytfocelelbcepnaa
