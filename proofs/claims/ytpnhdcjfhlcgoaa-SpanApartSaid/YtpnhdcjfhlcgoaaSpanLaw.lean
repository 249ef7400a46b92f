/- Spans: the laws of one span. -/
import Derived.Test.YtpnhdcjfhlcgoaaSpanErrR
set_option linter.unusedVariables false
set_option linter.unusedSimpArgs false
set_option maxHeartbeats 4000000
set_option maxRecDepth 20000
namespace Go.Proofs.Ytpnhdcjfhlcgoaa
open Go.Proofs.Ytpnhdcjfhlcgoaa.PM

/-- The first error of a land and a span. -/
def vErr (l : Ld) (k a b u : Int) : Int := if landErr l = 0 then sErr l l.w.toNat l.h.toNat k a b u else landErr l
theorem good_nat {l : Ld} (h : landErr l = 0) : Good l l.w.toNat l.h.toNat := by
  obtain ⟨W, H, g⟩ := good_of h
  have h1 : l.w.toNat = W := by rw [g.w]; rfl
  have h2 : l.h.toNat = H := by rw [g.h]; rfl
  rw [h1, h2]
  exact g
theorem val_ok {l : Ld} (hf : l.nl ≠ .bor) (hb : l.xs.length ≤ 3000) (k a b u : Int) : R tb 15 [vL l, vSpan k a b u] = some (.int .i64 (vErr l k a b u)) := by
  have h1 := landV_ok l hf hb
  have h2 := fun h : landErr l = 0 => check_ok hf (good_nat h) k a b u
  have h3 : vErr l k a b u = if landErr l = 0 then sErr l l.w.toNat l.h.toNat k a b u else landErr l := rfl
  generalize sErr l l.w.toNat l.h.toNat k a b u = se at *
  generalize vErr l k a b u = ve at *
  generalize landErr l = le at *
  obtain ⟨w, hh, nl, xs⟩ := l
  dsimp only at hf h1 h2
  refine R_of_G (F := pf15) rfl rfl rfl ?_
  by_cases c : le = 0
  · rw [if_pos c] at h3
    simp (disch := first | omega | with_unfolding_all rfl) [pf15, env0_eq, hf, h1, c, h2 c, h3]
  · rw [if_neg c] at h3
    simp (disch := first | omega | with_unfolding_all rfl) [pf15, env0_eq, hf, h1, c, h3]
theorem valR_ok {l : Ld} (hf : l.nl ≠ .bor) (hb : l.xs.length ≤ 3000) (k a b u : Int) : R tb 14 [vL l, vSpan k a b u] = some (.int .i64 (vErr l k a b u)) := by
  have h1 := landR_ok l hf hb
  have h2 := fun h : landErr l = 0 => errR_ok hf (good_nat h) k a b u
  have h3 : vErr l k a b u = if landErr l = 0 then sErr l l.w.toNat l.h.toNat k a b u else landErr l := rfl
  generalize sErr l l.w.toNat l.h.toNat k a b u = se at *
  generalize vErr l k a b u = ve at *
  generalize landErr l = le at *
  obtain ⟨w, hh, nl, xs⟩ := l
  dsimp only at hf h1 h2
  refine R_of_G (F := pf14) rfl rfl rfl ?_
  by_cases c : le = 0
  · rw [if_pos c] at h3
    simp (disch := first | omega | with_unfolding_all rfl) [pf14, env0_eq, hf, h1, c, h2 c, h3]
  · rw [if_neg c] at h3
    simp (disch := first | omega | with_unfolding_all rfl) [pf14, env0_eq, hf, h1, c, h3]
/-- What a span costs. -/
def costI (l : Ld) (k a b u : Int) : Int := if vErr l k a b u = 0 then prI k (btw l.w a b).length else 0
/-- What is so of a span that is right. -/
theorem sErr_0 {l : Ld} {W H : Nat} {k a b u : Int} (h : sErr l W H k a b u = 0) : (k = 0 ∨ k = 1) ∧ ∃ A B : Nat, a = A ∧ b = B ∧ A < B ∧ B < W * H ∧ byI W A B ≠ 0 ∧ 0 < (btw W A B).length ∧ (btw W A B).length ≤ 10 := by
  unfold sErr at h
  split at h
  · cases h
  split at h
  · cases h
  split at h
  · cases h
  split at h
  · cases h
  rename_i h1 h2 h3 h4
  obtain ⟨A, rfl⟩ : ∃ A : Nat, a = A := ⟨a.toNat, by omega⟩
  obtain ⟨B, rfl⟩ : ∃ B : Nat, b = B := ⟨b.toNat, by omega⟩
  have := byI_lt h3
  exact ⟨by omega, A, B, rfl, rfl, by omega, by omega, h3, by omega, by omega⟩
theorem cost_ok {l : Ld} (hf : l.nl ≠ .bor) (hb : l.xs.length ≤ 3000) (k a b u : Int) : R tb 17 [vL l, vSpan k a b u] = some (.tup [.int .i64 (costI l k a b u), .int .i64 (vErr l k a b u)]) := by
  have h1 := val_ok hf hb k a b u
  have h2 : vErr l k a b u = 0 → R tb 34 [vL l, vSpan k a b u] = some (.int .i64 (prI k (btw l.w a b).length)) := by
    intro h
    unfold vErr at h
    by_cases c : landErr l = 0
    · rw [if_pos c] at h
      have g := good_nat c
      obtain ⟨hk, A, B, rfl, rfl, hab, hB, hd, _, hn⟩ := sErr_0 h
      have := price_ok hf g (u := u) hk hab hB hd hn
      rw [← g.w] at this
      exact this
    · rw [if_neg c] at h; exact absurd h c
  have h3 : costI l k a b u = if vErr l k a b u = 0 then prI k (btw l.w a b).length else 0 := rfl
  generalize costI l k a b u = ci at *
  generalize vErr l k a b u = ve at *
  generalize prI k (btw l.w a b).length = pr at *
  obtain ⟨w, hh, nl, xs⟩ := l
  dsimp only at hf h1 h2
  refine R_of_G (F := pf17) rfl rfl rfl ?_
  by_cases c : ve = 0
  · rw [if_pos c] at h3
    simp (disch := first | omega | with_unfolding_all rfl) [pf17, env0_eq, hf, h1, c, h2 c, h3]
  · rw [if_neg c] at h3
    simp (disch := first | omega | with_unfolding_all rfl) [pf17, env0_eq, hf, h1, c, h3]
theorem costR_ok {l : Ld} (hf : l.nl ≠ .bor) (hb : l.xs.length ≤ 3000) (k a b u : Int) : R tb 16 [vL l, vSpan k a b u] = some (.tup [.int .i64 (costI l k a b u), .int .i64 (vErr l k a b u)]) := by
  have h1 := valR_ok hf hb k a b u
  have h2 : vErr l k a b u = 0 → R tb 33 [vL l, vSpan k a b u] = some (.int .i64 (prI k (btw l.w a b).length)) := by
    intro h
    unfold vErr at h
    by_cases c : landErr l = 0
    · rw [if_pos c] at h
      have g := good_nat c
      obtain ⟨hk, A, B, rfl, rfl, hab, hB, hd, _, hn⟩ := sErr_0 h
      have := priceR_ok hf g (u := u) hk hab hB hd hn
      rw [← g.w] at this
      exact this
    · rw [if_neg c] at h; exact absurd h c
  have h3 : costI l k a b u = if vErr l k a b u = 0 then prI k (btw l.w a b).length else 0 := rfl
  generalize costI l k a b u = ci at *
  generalize vErr l k a b u = ve at *
  generalize prI k (btw l.w a b).length = pr at *
  obtain ⟨w, hh, nl, xs⟩ := l
  dsimp only at hf h1 h2
  refine R_of_G (F := pf16) rfl rfl rfl ?_
  by_cases c : ve = 0
  · rw [if_pos c] at h3
    simp (disch := first | omega | with_unfolding_all rfl) [pf16, env0_eq, hf, h1, c, h2 c, h3]
  · rw [if_neg c] at h3
    simp (disch := first | omega | with_unfolding_all rfl) [pf16, env0_eq, hf, h1, c, h3]

theorem far0_ok {l : Ld} (hf : l.nl ≠ .bor) (hb : l.xs.length ≤ maxLen) : R tb 12 [vL l, .list .nil 4 []] = some (.bool (decide (3000 < l.xs.length))) := by
  obtain ⟨w, hh, nl, xs⟩ := l
  have hm : maxLen = 9223372036854775807 := rfl
  dsimp only at hf hb
  refine R_of_G (F := pf12) rfl rfl rfl ?_
  simp (disch := first | omega | with_unfolding_all rfl) [pf12, env0_eq, hf]
  by_cases c : (3000 : Int) < xs.length
  · have c' : 3000 < xs.length := by omega
    simp (disch := first | omega | with_unfolding_all rfl) [c, c']
  · have c' : ¬ 3000 < xs.length := by omega
    simp (disch := first | omega | with_unfolding_all rfl) [c, c']
theorem validates_ok {l : Ld} (hf : l.nl ≠ .bor) (hb : l.xs.length ≤ maxLen) (k a b u : Int) : R tb 3 [vL l, vSpan k a b u] = some (.bool true) := by
  have h0 := far0_ok hf hb
  have h1 := fun h : l.xs.length ≤ 3000 => val_ok hf h k a b u
  have h2 := fun h : l.xs.length ≤ 3000 => valR_ok hf h k a b u
  generalize vErr l k a b u = ve at *
  obtain ⟨w, hh, nl, xs⟩ := l
  dsimp only at hf hb h0 h1 h2
  refine R_of_G (F := pf3) rfl rfl rfl ?_
  by_cases c : 3000 < xs.length
  · simp (disch := first | omega | with_unfolding_all rfl) [pf3, env0_eq, hf, h0, c, known_ok]
  · simp (disch := first | omega | with_unfolding_all rfl) [pf3, env0_eq, hf, h0, c, known_ok, h1 (by omega), h2 (by omega)]
theorem costs_ok {l : Ld} (hf : l.nl ≠ .bor) (hb : l.xs.length ≤ maxLen) (k a b u : Int) : R tb 4 [vL l, vSpan k a b u] = some (.bool true) := by
  have h0 := far0_ok hf hb
  have h1 := fun h : l.xs.length ≤ 3000 => cost_ok hf h k a b u
  have h2 := fun h : l.xs.length ≤ 3000 => costR_ok hf h k a b u
  generalize vErr l k a b u = ve at *
  generalize costI l k a b u = ci at *
  obtain ⟨w, hh, nl, xs⟩ := l
  dsimp only at hf hb h0 h1 h2
  refine R_of_G (F := pf4) rfl rfl rfl ?_
  by_cases c : 3000 < xs.length
  · simp (disch := first | omega | with_unfolding_all rfl) [pf4, env0_eq, hf, h0, c, known_ok]
  · simp (disch := first | omega | with_unfolding_all rfl) [pf4, env0_eq, hf, h0, c, known_ok, h1 (by omega), h2 (by omega)]
end Go.Proofs.Ytpnhdcjfhlcgoaa
