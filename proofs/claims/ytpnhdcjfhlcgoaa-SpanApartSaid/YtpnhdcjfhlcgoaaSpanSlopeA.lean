/- Several texts in one: SpanSlope, SpanSlopeR. -/
import Derived.Test.YtpnhdcjfhlcgoaaSpanGeoA
section
set_option linter.unusedVariables false
set_option linter.unusedSimpArgs false
set_option maxHeartbeats 4000000
set_option maxRecDepth 20000
namespace Go.Proofs.Ytpnhdcjfhlcgoaa
open Go.Proofs.Ytpnhdcjfhlcgoaa.PM

theorem or_all : ∀ n < 16, ∀ i < 5, n < 2 ^ i → IntKind.wrap .i64 (((BitVec.ofNat 64 n ||| BitVec.ofNat 64 (2 ^ i)).toNat : Nat) : Int) = ((n + 2 ^ i : Nat) : Int) := by decide
theorem or_p {x : Int} {i : Nat} (h0 : 0 ≤ x) (h1 : x < ((2 ^ i : Nat) : Int)) (hi : i < 5) : evBin .or (.int .i64 x) (.int .i64 ((2 ^ i : Nat) : Int)) = some (.int .i64 (x + ((2 ^ i : Nat) : Int))) := by
  obtain ⟨n, rfl⟩ : ∃ n : Nat, x = n := ⟨x.toNat, by omega⟩
  have hn : n < 2 ^ i := by exact_mod_cast h1
  have h16 : 2 ^ i ≤ 16 := by
    have : (2 : Nat) ^ i ≤ 2 ^ 4 := Nat.pow_le_pow_right (by omega) (by omega)
    simpa using this
  have := or_all n (by omega) i hi hn
  have e1 : BitVec.ofInt 64 ((n : Nat) : Int) = BitVec.ofNat 64 n := BitVec.ofInt_natCast 64 n
  have e2 : BitVec.ofInt 64 ((2 ^ i : Nat) : Int) = BitVec.ofNat 64 (2 ^ i) := BitVec.ofInt_natCast 64 _
  rw [evBin_or]
  show some (PV.int .i64 (IntKind.wrap .i64 (((BitVec.ofInt 64 ((n : Nat) : Int) ||| BitVec.ofInt 64 ((2 ^ i : Nat) : Int)).toNat : Nat) : Int))) = _
  rw [e1, e2, this]
  rfl
theorem pw1 : IntKind.i64.wrap (2 ^ min 1 IntKind.i64.bits) = 2 := by rfl
theorem pw2 : IntKind.i64.wrap (2 ^ min 2 IntKind.i64.bits) = 4 := by rfl
theorem pw3 : IntKind.i64.wrap (2 ^ min 3 IntKind.i64.bits) = 8 := by rfl
theorem or1 {x : Int} (h0 : 0 ≤ x) (h1 : x < 1) : evBin .or (.int .i64 x) (.int .i64 1) = some (.int .i64 (x + 1)) := or_p (i := 0) h0 (by simpa using h1) (by omega)
theorem or2 {x : Int} (h0 : 0 ≤ x) (h1 : x < 2) : evBin .or (.int .i64 x) (.int .i64 2) = some (.int .i64 (x + 2)) := or_p (i := 1) h0 (by simpa using h1) (by omega)
theorem or4 {x : Int} (h0 : 0 ≤ x) (h1 : x < 4) : evBin .or (.int .i64 x) (.int .i64 4) = some (.int .i64 (x + 4)) := or_p (i := 2) h0 (by simpa using h1) (by omega)
theorem or8 {x : Int} (h0 : 0 ≤ x) (h1 : x < 8) : evBin .or (.int .i64 x) (.int .i64 8) = some (.int .i64 (x + 8)) := or_p (i := 3) h0 (by simpa using h1) (by omega)
theorem or16 {x : Int} (h0 : 0 ≤ x) (h1 : x < 16) : evBin .or (.int .i64 x) (.int .i64 16) = some (.int .i64 (x + 16)) := or_p (i := 4) h0 (by simpa using h1) (by omega)

/-- The bits of the corners of number less than i. -/
def acc (a b c d : Int) : Nat → Int
  | 0 => 0
  | 1 => (if lo4 a b c d < a then 1 else 0)
  | 2 => (if lo4 a b c d < a then 1 else 0) + (if lo4 a b c d < b then 2 else 0)
  | 3 => (if lo4 a b c d < a then 1 else 0) + (if lo4 a b c d < b then 2 else 0) + (if lo4 a b c d < c then 4 else 0)
  | _ => (if lo4 a b c d < a then 1 else 0) + (if lo4 a b c d < b then 2 else 0) + (if lo4 a b c d < c then 4 else 0) + (if lo4 a b c d < d then 8 else 0)
def slp4 (a b c d : Int) : Int := acc a b c d 4 + (if lo4 a b c d + 1 < hi4 a b c d then 16 else 0)
def slp (l : Ld) (W t : Nat) : Int := slp4 (cn0 l W t) (cn1 l W t) (cn2 l W t) (cn3 l W t)
theorem acc_rg (a b c d : Int) : acc a b c d 1 < 2 ∧ 0 ≤ acc a b c d 1 ∧ acc a b c d 2 < 4 ∧ 0 ≤ acc a b c d 2 ∧ acc a b c d 3 < 8 ∧ 0 ≤ acc a b c d 3 ∧ acc a b c d 4 < 16 ∧ 0 ≤ acc a b c d 4 := by
  simp only [acc]
  repeat' split
  all_goals omega

theorem lo_rg {l : Ld} {W H t : Nat} (g : Good l W H) (ht : t < W * H) : 0 ≤ lo l W t ∧ lo l W t ≤ 15 ∧ 0 ≤ hi l W t ∧ hi l W t ≤ 15 := by
  have := cn_rg g ht
  unfold lo hi lo4 hi4
  omega

theorem slope_ok {l : Ld} {W H t : Nat} (hf : l.nl ≠ .bor) (g : Good l W H) (ht : t < W * H) : R tb 71 [vL l, .int .i64 (t : Int)] = some (.int .i64 (slp l W t)) := by
  have hc := corners_ok hf g ht
  have hb := base_ok hf g ht
  have hr := lo_rg g ht
  obtain ⟨w, hh, nl, xs⟩ := l
  dsimp only [vC] at hf hc
  unfold lo hi at hb hr
  unfold slp
  generalize cn0 ⟨w, hh, nl, xs⟩ W t = a at *
  generalize cn1 ⟨w, hh, nl, xs⟩ W t = b at *
  generalize cn2 ⟨w, hh, nl, xs⟩ W t = c at *
  generalize cn3 ⟨w, hh, nl, xs⟩ W t = d at *
  obtain ⟨r1, r2, r3, r4, r5, r6, r7, r8⟩ := acc_rg a b c d
  refine R_of_G (F := pf71) rfl rfl rfl ?_
  simp (disch := first | omega | with_unfolding_all rfl) [pf71, env0_eq, hf, hc, hb]
  refine G_loop (fun i e h => i ≤ 4 ∧ h = [⟨73, 0, [.int .i64 a, .int .i64 b, .int .i64 c, .int .i64 d]⟩] ∧ get e 6 = .int .i64 (lo4 a b c d) ∧ get e 7 = .int .i64 (hi4 a b c d) ∧ get e 8 = .int .i64 (acc a b c d i) ∧ get e 20 = .agg [.int .i64 a, .int .i64 b, .int .i64 c, .int .i64 d] ∧ get e 21 = .int .i64 (i : Int)) (fun i => 4 - i) (a₀ := 0) ?_ ?_
  · simp [acc]
  rintro i e h ⟨hi4', rfl, g6, g7, g8, g20, g21⟩
  simp (disch := first | omega | with_unfolding_all rfl) [g6, g7, g8, g20, g21]
  refine G_brd (fun h => ?_) (fun h => ?_)
  · obtain rfl | rfl | rfl | rfl : i = 0 ∨ i = 1 ∨ i = 2 ∨ i = 3 := by omega
    · simp (disch := first | omega | with_unfolding_all rfl) [ixIn]
      refine G_brd (fun h => ?_) (fun h => ?_)
      · simp (disch := first | omega | with_unfolding_all rfl) [acc, or1, h]
        exact ⟨1, by omega, by omega, by simp [acc, h], by simp⟩
      · simp (disch := first | omega | with_unfolding_all rfl) [acc, h]
        exact ⟨1, by omega, by omega, by simp [acc, h], by simp⟩
    · simp (disch := first | omega | with_unfolding_all rfl) [ixIn]
      refine G_brd (fun h => ?_) (fun h => ?_)
      · simp (disch := first | omega | with_unfolding_all rfl) [or2, h, pw1]
        exact ⟨2, by omega, by omega, by simp [acc, h], by simp⟩
      · simp (disch := first | omega | with_unfolding_all rfl) [h]
        exact ⟨2, by omega, by omega, by simp [acc, h], by simp⟩
    · simp (disch := first | omega | with_unfolding_all rfl) [ixIn]
      refine G_brd (fun h => ?_) (fun h => ?_)
      · simp (disch := first | omega | with_unfolding_all rfl) [or4, h, pw2]
        exact ⟨3, by omega, by omega, by simp [acc, h], by simp⟩
      · simp (disch := first | omega | with_unfolding_all rfl) [h]
        exact ⟨3, by omega, by omega, by simp [acc, h], by simp⟩
    · simp (disch := first | omega | with_unfolding_all rfl) [ixIn]
      refine G_brd (fun h => ?_) (fun h => ?_)
      · simp (disch := first | omega | with_unfolding_all rfl) [or8, h, pw3]
        exact ⟨4, by omega, by omega, by simp [acc, h], by simp⟩
      · simp (disch := first | omega | with_unfolding_all rfl) [h]
        exact ⟨4, by omega, by omega, by simp [acc, h], by simp⟩
  · obtain rfl : i = 4 := by omega
    simp (disch := first | omega | with_unfolding_all rfl) [h]
    refine G_brd (fun h => ?_) (fun h => ?_)
    · simp (disch := first | omega | with_unfolding_all rfl) [or16, h, slp4]
    · simp (disch := first | omega | with_unfolding_all rfl) [h, slp4]
end Go.Proofs.Ytpnhdcjfhlcgoaa
end

section
set_option linter.unusedVariables false
set_option linter.unusedSimpArgs false
set_option maxHeartbeats 4000000
set_option maxRecDepth 20000
namespace Go.Proofs.Ytpnhdcjfhlcgoaa
open Go.Proofs.Ytpnhdcjfhlcgoaa.PM

theorem slopeR_ok {l : Ld} {W H t : Nat} (hf : l.nl ≠ .bor) (g : Good l W H) (ht : t < W * H) : R tb 57 [vL l, .int .i64 (t : Int)] = some (.int .i64 (slp l W t)) := by
  have hc := cornersR_ok hf g ht
  have hb := baseR_ok hf g ht
  have hr := lo_rg g ht
  obtain ⟨w, hh, nl, xs⟩ := l
  dsimp only [vC] at hf hc
  unfold lo hi at hr
  unfold lo at hb
  unfold slp
  generalize cn0 ⟨w, hh, nl, xs⟩ W t = a at *
  generalize cn1 ⟨w, hh, nl, xs⟩ W t = b at *
  generalize cn2 ⟨w, hh, nl, xs⟩ W t = c at *
  generalize cn3 ⟨w, hh, nl, xs⟩ W t = d at *
  obtain ⟨r1, r2, r3, r4, r5, r6, r7, r8⟩ := acc_rg a b c d
  have hhi : lo4 a b c d + 1 < hi4 a b c d ↔ (lo4 a b c d + 1 < a ∨ lo4 a b c d + 1 < b ∨ lo4 a b c d + 1 < c ∨ lo4 a b c d + 1 < d) := by unfold hi4; omega
  refine R_of_G (F := pf57) rfl rfl rfl ?_
  simp (disch := first | omega | with_unfolding_all rfl) [pf57, env0_eq, hf]
  refine G_reg_chk ?_ ?_
  · refine all_cons_ck (ckOne_of rfl ?_) (all_cons_ck (ckOne_of rfl ?_) (all_cons_ck (ckOne_of rfl ?_) (all_cons_ck (ckOne_of rfl ?_) (all_cons_ck (ckOne_of rfl ?_) (all_cons_ck (ckOne_of rfl ?_) (all_cons_ck (ckOne_of rfl ?_) (all_cons_ck (ckOne_of rfl ?_) all_nil_ck)))))))
    all_goals simp (disch := first | omega | with_unfolding_all rfl) [hc, hb]
  simp (disch := first | omega | with_unfolding_all rfl) [hc, hb]
  refine G_loop (fun i e h => i ≤ 4 ∧ h = [⟨73, 0, [.int .i64 a, .int .i64 b, .int .i64 c, .int .i64 d]⟩] ∧ get e 5 = .mptr 0 0 0 ∧ get e 6 = .int .i64 (lo4 a b c d) ∧ get e 7 = .int .i64 (acc a b c d i) ∧ get e 8 = .int .i64 (i : Int)) (fun i => 4 - i) (a₀ := 0) ?_ ?_
  · simp [acc]
  rintro i e h ⟨hi4', rfl, g5, g6, g7, g8⟩
  simp (disch := first | omega | with_unfolding_all rfl) [g5, g6, g7, g8]
  refine G_brd (fun h => ?_) (fun h => ?_)
  · obtain rfl | rfl | rfl | rfl : i = 0 ∨ i = 1 ∨ i = 2 ∨ i = 3 := by omega
    · simp (disch := first | omega | with_unfolding_all rfl) [ixIn, evIaA, evFaddr]
      refine G_brd (fun h => ?_) (fun h => ?_)
      · simp (disch := first | omega | with_unfolding_all rfl) [acc, h]
        exact ⟨1, by omega, by omega, by simp [acc, h], by simp⟩
      · simp (disch := first | omega | with_unfolding_all rfl) [acc, h]
        exact ⟨1, by omega, by omega, by simp [acc, h], by simp⟩
    · simp (disch := first | omega | with_unfolding_all rfl) [ixIn, evIaA, evFaddr]
      refine G_brd (fun h => ?_) (fun h => ?_)
      · simp (disch := first | omega | with_unfolding_all rfl) [h, pw1]
        exact ⟨2, by omega, by omega, by simp [acc, h], by simp⟩
      · simp (disch := first | omega | with_unfolding_all rfl) [h]
        exact ⟨2, by omega, by omega, by simp [acc, h], by simp⟩
    · simp (disch := first | omega | with_unfolding_all rfl) [ixIn, evIaA, evFaddr]
      refine G_brd (fun h => ?_) (fun h => ?_)
      · simp (disch := first | omega | with_unfolding_all rfl) [h, pw2]
        exact ⟨3, by omega, by omega, by simp [acc, h], by simp⟩
      · simp (disch := first | omega | with_unfolding_all rfl) [h]
        exact ⟨3, by omega, by omega, by simp [acc, h], by simp⟩
    · simp (disch := first | omega | with_unfolding_all rfl) [ixIn, evIaA, evFaddr]
      refine G_brd (fun h => ?_) (fun h => ?_)
      · simp (disch := first | omega | with_unfolding_all rfl) [h, pw3]
        exact ⟨4, by omega, by omega, by simp [acc, h], by simp⟩
      · simp (disch := first | omega | with_unfolding_all rfl) [h]
        exact ⟨4, by omega, by omega, by simp [acc, h], by simp⟩
  · obtain rfl : i = 4 := by omega
    simp (disch := first | omega | with_unfolding_all rfl) [h]
    have hit : ∀ x : Int, lo4 a b c d + 1 < x → (x = a ∨ x = b ∨ x = c ∨ x = d) → slp4 a b c d = acc a b c d 4 + 16 := by
      intro x hx hxx
      rw [slp4, if_pos (by rw [hhi]; omega)]
    rw [G_unroll]
    simp (disch := first | omega | with_unfolding_all rfl) [ixIn, evIaA, evFaddr]
    refine G_brd (fun h0 => ?_) (fun h0 => ?_)
    · simp (disch := first | omega | with_unfolding_all rfl) [h0, hit a h0 (.inl rfl)]
    simp (disch := first | omega | with_unfolding_all rfl) [h0]
    rw [G_unroll]
    simp (disch := first | omega | with_unfolding_all rfl) [ixIn, evIaA, evFaddr]
    refine G_brd (fun h1 => ?_) (fun h1 => ?_)
    · simp (disch := first | omega | with_unfolding_all rfl) [h1, hit b h1 (.inr (.inl rfl))]
    simp (disch := first | omega | with_unfolding_all rfl) [h1]
    rw [G_unroll]
    simp (disch := first | omega | with_unfolding_all rfl) [ixIn, evIaA, evFaddr]
    refine G_brd (fun h2 => ?_) (fun h2 => ?_)
    · simp (disch := first | omega | with_unfolding_all rfl) [h2, hit c h2 (.inr (.inr (.inl rfl)))]
    simp (disch := first | omega | with_unfolding_all rfl) [h2]
    rw [G_unroll]
    simp (disch := first | omega | with_unfolding_all rfl) [ixIn, evIaA, evFaddr]
    refine G_brd (fun h3 => ?_) (fun h3 => ?_)
    · simp (disch := first | omega | with_unfolding_all rfl) [h3, hit d h3 (.inr (.inr (.inr rfl)))]
    simp (disch := first | omega | with_unfolding_all rfl) [h3]
    rw [G_unroll]
    have hno : slp4 a b c d = acc a b c d 4 := by rw [slp4, if_neg (by rw [hhi]; omega)]; omega
    simp (disch := first | omega | with_unfolding_all rfl) [hno]
end Go.Proofs.Ytpnhdcjfhlcgoaa
end
