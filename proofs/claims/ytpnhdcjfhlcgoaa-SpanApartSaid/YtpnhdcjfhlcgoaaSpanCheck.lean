/- Spans: the first error of a span, and its price. -/
import Derived.Test.YtpnhdcjfhlcgoaaSpanStandA
set_option linter.unusedVariables false
set_option linter.unusedSimpArgs false
set_option maxHeartbeats 4000000
set_option maxRecDepth 20000
namespace Go.Proofs.Ytpnhdcjfhlcgoaa
open Go.Proofs.Ytpnhdcjfhlcgoaa.PM

def sErr (l : Ld) (W H : Nat) (k a b u : Int) : Int :=
  if (k ≠ 0 ∧ k ≠ 1) ∨ (u ≠ 0 ∧ u ≠ 1) then 1
  else if ¬ (0 ≤ a ∧ a < ((W * H : Nat) : Int)) ∨ ¬ (0 ≤ b ∧ b < ((W * H : Nat) : Int)) then 2
  else if byI W a b = 0 then 8
  else if (btw W a b).length < 1 ∨ 10 < (btw W a b).length then 10
  else if std l W k a.toNat b.toNat then 0 else 5
theorem byI_lt {w a b : Int} (h : byI w a b ≠ 0) : a < b := by
  unfold byI at h
  rcases Int.lt_or_le a b with q | q
  · exact q
  · rw [if_pos q] at h; exact absurd rfl h

theorem check_ok {l : Ld} {W H : Nat} (hf : l.nl ≠ .bor) (g : Good l W H) (k a b u : Int) : R tb 32 [vL l, vSpan k a b u] = some (.int .i64 (sErr l W H k a b u)) := by
  have hwh := wh_le g
  have hti : ∀ n, R tb 42 [vL l, .int .i64 n] = some (.bool (decide (0 ≤ n ∧ n < ((W * H : Nat) : Int)))) := fun n => tile_ok hf g
  have hst := fun (A B : Nat) (hA : A < W * H) (hB : B < W * H) => step_ok g (k := k) (u := u) hA hB
  have hln := fun (A B : Nat) (hab : A < B) (hB : B < W * H) (hd : byI W A B ≠ 0) => length_ok hf g (k := k) (u := u) hab hB hd
  have hsd := fun (A B : Nat) (hab : A < B) (hB : B < W * H) (hd : byI W A B ≠ 0) => stands_ok hf g (k := k) (u := u) hab hB hd
  obtain ⟨N, hN⟩ : ∃ N, N = W * H := ⟨_, rfl⟩
  have hse : sErr l W H k a b u = if (k ≠ 0 ∧ k ≠ 1) ∨ (u ≠ 0 ∧ u ≠ 1) then 1 else if ¬ (0 ≤ a ∧ a < (N : Int)) ∨ ¬ (0 ≤ b ∧ b < (N : Int)) then 2
      else if byI W a b = 0 then 8 else if (btw W a b).length < 1 ∨ 10 < (btw W a b).length then 10 else if std l W k a.toNat b.toNat then 0 else 5 := by rw [hN]; rfl
  rw [← hN] at hwh hti hst hln hsd
  obtain ⟨w, hh, nl, xs⟩ := l
  obtain ⟨rfl, rfl, w4, w32, h4, h32, len, rg⟩ := g
  dsimp only at hf hti hst hln hsd
  generalize sErr ⟨W, H, nl, xs⟩ W H k a b u = se at *
  refine R_of_G (F := pf32) rfl rfl rfl ?_
  simp (disch := first | omega | with_unfolding_all rfl) [pf32, env0_eq, hf]
  by_cases c1 : k ≠ 0 ∧ k ≠ 1
  · simp (disch := first | omega | with_unfolding_all rfl) [c1, hse]
  have c1' : k = 0 ∨ k = 1 := by omega
  by_cases c2 : u ≠ 0 ∧ u ≠ 1
  · rcases c1' with rfl | rfl <;> simp (disch := first | omega | with_unfolding_all rfl) [c2, hse]
  have c2' : u = 0 ∨ u = 1 := by omega
  rw [if_neg (by omega)] at hse
  by_cases c3 : 0 ≤ a ∧ a < (N : Int)
  case neg =>
    rw [if_pos (.inl c3)] at hse
    rcases c1' with rfl | rfl <;> rcases c2' with rfl | rfl <;> simp (disch := first | omega | with_unfolding_all rfl) [hti, c3, hse]
  by_cases c4 : 0 ≤ b ∧ b < (N : Int)
  case neg =>
    rw [if_pos (.inr c4)] at hse
    rcases c1' with rfl | rfl <;> rcases c2' with rfl | rfl <;> simp (disch := first | omega | with_unfolding_all rfl) [hti, c3, c4, hse]
  rw [if_neg (by omega)] at hse
  obtain ⟨A, rfl⟩ : ∃ A : Nat, a = A := ⟨a.toNat, by omega⟩
  obtain ⟨B, rfl⟩ : ∃ B : Nat, b = B := ⟨b.toNat, by omega⟩
  have hst := hst A B (by omega) (by omega)
  have hln := fun hab hd => hln A B hab (by omega) hd
  have hsd := fun hab hd => hsd A B hab (by omega) hd
  rcases c1' with rfl | rfl <;> rcases c2' with rfl | rfl
  all_goals
    simp (disch := first | omega | with_unfolding_all rfl) [hti, c3, c4, hst]
    by_cases c5 : byI W A B = 0
    · simp (disch := first | omega | with_unfolding_all rfl) [c5, hse]
    have hab : A < B := by have := byI_lt c5; omega
    have e1 := hln hab c5
    have e2 := hsd hab c5
    rw [if_neg c5] at hse
    generalize (btw W A B).length = n at e1 hse
    simp (disch := first | omega | with_unfolding_all rfl) [c5, e1]
    by_cases c6 : n < 1 ∨ 10 < n
    · rw [if_pos c6] at hse
      by_cases c7 : (n : Int) < 1
      · simp (disch := first | omega | with_unfolding_all rfl) [c7, hse]
      · have c8 : (10 : Int) < n := by omega
        simp (disch := first | omega | with_unfolding_all rfl) [c7, c8, hse]
    rw [if_neg c6] at hse
    have c7 : ¬ (n : Int) < 1 := by omega
    have c8 : ¬ (10 : Int) < n := by omega
    simp (disch := first | omega | with_unfolding_all rfl) [c7, c8, e2]
    rw [Int.toNat_natCast, Int.toNat_natCast] at hse
    cases hs : std ⟨W, H, nl, xs⟩ W _ A B
    · rw [hs] at hse
      simp (disch := first | omega | with_unfolding_all rfl) [hse]
    · rw [hs] at hse
      simp (disch := first | omega | with_unfolding_all rfl) [hse]
end Go.Proofs.Ytpnhdcjfhlcgoaa
