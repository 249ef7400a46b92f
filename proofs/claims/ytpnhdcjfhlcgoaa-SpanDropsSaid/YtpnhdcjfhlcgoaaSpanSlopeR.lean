/- Spans: the reference's slopes. -/
import Derived.Test.YtpnhdcjfhlcgoaaSpanSlope
set_option linter.unusedVariables false
set_option linter.unusedSimpArgs false
set_option maxHeartbeats 4000000
set_option maxRecDepth 20000
namespace Go.Proofs.Ytpnhdcjfhlcgoaa
open Go.Proofs.Ytpnhdcjfhlcgoaa.PM

theorem slopeR_ok {l : Ld} {W H t : Nat} (hf : l.nl ≠ .bor) (g : Good l W H) (ht : t < W * H) : R tb 57 [vL l, .int .i64 (t : Int)] = some (.int .i64 (slp l W t)) := by
  have hc := cornersR_ok hf g ht
  have hb := baseR_ok hf g ht
  have hr := lo_rg g ht
  obtain ⟨w, hh, nl, xs⟩ := l
  dsimp only [vC] at hf hc
  unfold lo hi at hr
  unfold lo at hb
  unfold slp
  generalize cn0 ⟨w, hh, nl, xs⟩ W t = a at *
  generalize cn1 ⟨w, hh, nl, xs⟩ W t = b at *
  generalize cn2 ⟨w, hh, nl, xs⟩ W t = c at *
  generalize cn3 ⟨w, hh, nl, xs⟩ W t = d at *
  obtain ⟨r1, r2, r3, r4, r5, r6, r7, r8⟩ := acc_rg a b c d
  have hhi : lo4 a b c d + 1 < hi4 a b c d ↔ (lo4 a b c d + 1 < a ∨ lo4 a b c d + 1 < b ∨ lo4 a b c d + 1 < c ∨ lo4 a b c d + 1 < d) := by unfold hi4; omega
  refine R_of_G (F := pf57) rfl rfl rfl ?_
  simp (disch := first | omega | with_unfolding_all rfl) [pf57, env0_eq, hf]
  refine G_reg_chk ?_ ?_
  · refine all_cons_ck (ckOne_of rfl ?_) (all_cons_ck (ckOne_of rfl ?_) (all_cons_ck (ckOne_of rfl ?_) (all_cons_ck (ckOne_of rfl ?_) (all_cons_ck (ckOne_of rfl ?_) (all_cons_ck (ckOne_of rfl ?_) (all_cons_ck (ckOne_of rfl ?_) (all_cons_ck (ckOne_of rfl ?_) all_nil_ck)))))))
    all_goals simp (disch := first | omega | with_unfolding_all rfl) [hc, hb]
  simp (disch := first | omega | with_unfolding_all rfl) [hc, hb]
  refine G_loop (fun i e h => i ≤ 4 ∧ h = [⟨73, 0, [.int .i64 a, .int .i64 b, .int .i64 c, .int .i64 d]⟩] ∧ get e 5 = .mptr 0 0 0 ∧ get e 6 = .int .i64 (lo4 a b c d) ∧ get e 7 = .int .i64 (acc a b c d i) ∧ get e 8 = .int .i64 (i : Int)) (fun i => 4 - i) (a₀ := 0) ?_ ?_
  · simp [acc]
  rintro i e h ⟨hi4', rfl, g5, g6, g7, g8⟩
  simp (disch := first | omega | with_unfolding_all rfl) [g5, g6, g7, g8]
  refine G_brd (fun h => ?_) (fun h => ?_)
  · obtain rfl | rfl | rfl | rfl : i = 0 ∨ i = 1 ∨ i = 2 ∨ i = 3 := by omega
    · simp (disch := first | omega | with_unfolding_all rfl) [ixIn, evIaA, evFaddr]
      refine G_brd (fun h => ?_) (fun h => ?_)
      · simp (disch := first | omega | with_unfolding_all rfl) [acc, h]
        exact ⟨1, by omega, by omega, by simp [acc, h], by simp⟩
      · simp (disch := first | omega | with_unfolding_all rfl) [acc, h]
        exact ⟨1, by omega, by omega, by simp [acc, h], by simp⟩
    · simp (disch := first | omega | with_unfolding_all rfl) [ixIn, evIaA, evFaddr]
      refine G_brd (fun h => ?_) (fun h => ?_)
      · simp (disch := first | omega | with_unfolding_all rfl) [h, pw1]
        exact ⟨2, by omega, by omega, by simp [acc, h], by simp⟩
      · simp (disch := first | omega | with_unfolding_all rfl) [h]
        exact ⟨2, by omega, by omega, by simp [acc, h], by simp⟩
    · simp (disch := first | omega | with_unfolding_all rfl) [ixIn, evIaA, evFaddr]
      refine G_brd (fun h => ?_) (fun h => ?_)
      · simp (disch := first | omega | with_unfolding_all rfl) [h, pw2]
        exact ⟨3, by omega, by omega, by simp [acc, h], by simp⟩
      · simp (disch := first | omega | with_unfolding_all rfl) [h]
        exact ⟨3, by omega, by omega, by simp [acc, h], by simp⟩
    · simp (disch := first | omega | with_unfolding_all rfl) [ixIn, evIaA, evFaddr]
      refine G_brd (fun h => ?_) (fun h => ?_)
      · simp (disch := first | omega | with_unfolding_all rfl) [h, pw3]
        exact ⟨4, by omega, by omega, by simp [acc, h], by simp⟩
      · simp (disch := first | omega | with_unfolding_all rfl) [h]
        exact ⟨4, by omega, by omega, by simp [acc, h], by simp⟩
  · obtain rfl : i = 4 := by omega
    simp (disch := first | omega | with_unfolding_all rfl) [h]
    have hit : ∀ x : Int, lo4 a b c d + 1 < x → (x = a ∨ x = b ∨ x = c ∨ x = d) → slp4 a b c d = acc a b c d 4 + 16 := by
      intro x hx hxx
      rw [slp4, if_pos (by rw [hhi]; omega)]
    rw [G_unroll]
    simp (disch := first | omega | with_unfolding_all rfl) [ixIn, evIaA, evFaddr]
    refine G_brd (fun h0 => ?_) (fun h0 => ?_)
    · simp (disch := first | omega | with_unfolding_all rfl) [h0, hit a h0 (.inl rfl)]
    simp (disch := first | omega | with_unfolding_all rfl) [h0]
    rw [G_unroll]
    simp (disch := first | omega | with_unfolding_all rfl) [ixIn, evIaA, evFaddr]
    refine G_brd (fun h1 => ?_) (fun h1 => ?_)
    · simp (disch := first | omega | with_unfolding_all rfl) [h1, hit b h1 (.inr (.inl rfl))]
    simp (disch := first | omega | with_unfolding_all rfl) [h1]
    rw [G_unroll]
    simp (disch := first | omega | with_unfolding_all rfl) [ixIn, evIaA, evFaddr]
    refine G_brd (fun h2 => ?_) (fun h2 => ?_)
    · simp (disch := first | omega | with_unfolding_all rfl) [h2, hit c h2 (.inr (.inr (.inl rfl)))]
    simp (disch := first | omega | with_unfolding_all rfl) [h2]
    rw [G_unroll]
    simp (disch := first | omega | with_unfolding_all rfl) [ixIn, evIaA, evFaddr]
    refine G_brd (fun h3 => ?_) (fun h3 => ?_)
    · simp (disch := first | omega | with_unfolding_all rfl) [h3, hit d h3 (.inr (.inr (.inr rfl)))]
    simp (disch := first | omega | with_unfolding_all rfl) [h3]
    rw [G_unroll]
    have hno : slp4 a b c d = acc a b c d 4 := by rw [slp4, if_neg (by rw [hhi]; omega)]; omega
    simp (disch := first | omega | with_unfolding_all rfl) [hno]
end Go.Proofs.Ytpnhdcjfhlcgoaa
