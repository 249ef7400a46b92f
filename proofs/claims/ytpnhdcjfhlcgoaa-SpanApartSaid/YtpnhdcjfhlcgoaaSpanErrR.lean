/- Spans: the reference's first error of a span. -/
import Derived.Test.YtpnhdcjfhlcgoaaSpanBtw
set_option linter.unusedVariables false
set_option linter.unusedSimpArgs false
set_option maxHeartbeats 4000000
set_option maxRecDepth 20000
namespace Go.Proofs.Ytpnhdcjfhlcgoaa
open Go.Proofs.Ytpnhdcjfhlcgoaa.PM

theorem errR_ok {l : Ld} {W H : Nat} (hf : l.nl ≠ .bor) (g : Good l W H) (k a b u : Int) : R tb 30 [vL l, vSpan k a b u] = some (.int .i64 (sErr l W H k a b u)) := by
  have hwh := wh_le g
  have hgp := fun (A B : Nat) (hA : A < W * H) (hB : B < W * H) => gap_ok hf g (k := k) (u := u) hA hB
  have hbt := fun (A B : Nat) (hab : A < B) (hB : B < W * H) (hd : gapI W A B ≠ 0) => btwR_ok hf g (k := k) (u := u) hab hB hd
  have hba : ∀ t : Nat, t < W * H → R tb 56 [vL l, .int .i64 (t : Int)] = some (.int .i64 (lo l W t)) := fun t ht => baseR_ok hf g ht
  have hsl : ∀ t : Nat, t < W * H → R tb 57 [vL l, .int .i64 (t : Int)] = some (.int .i64 (slp l W t)) := fun t ht => slopeR_ok hf g ht
  have hco : ∀ t : Nat, t < W * H → R tb 58 [vL l, .int .i64 (t : Int)] = some (vC l W t) := fun t ht => cornersR_ok hf g ht
  have hrng : ∀ (a b : Nat), a < b → b < W * H → byI W a b ≠ 0 → ∀ i (hi : i < (btw W a b).length), ∃ t : Nat, t < W * H ∧ (btw W a b)[i] = (t : Int) := fun a b hab hb hd i hi => btw_rg (by have := g.w4; omega) (by omega) (by omega) hd (by omega) hi
  obtain ⟨N, hN⟩ : ∃ N, N = W * H := ⟨_, rfl⟩
  have hse : sErr l W H k a b u = if (k ≠ 0 ∧ k ≠ 1) ∨ (u ≠ 0 ∧ u ≠ 1) then 1 else if ¬ (0 ≤ a ∧ a < (N : Int)) ∨ ¬ (0 ≤ b ∧ b < (N : Int)) then 2
      else if byI W a b = 0 then 8 else if (btw W a b).length < 1 ∨ 10 < (btw W a b).length then 10 else if std l W k a.toNat b.toNat then 0 else 5 := by rw [hN]; rfl
  have hm : (W : Int) * (H : Int) = (N : Int) := by rw [hN]; push_cast; rfl
  rw [← hN] at hwh hgp hbt hba hsl hco hrng
  have hbd : ∀ (A t : Nat), badT l W k (lo l W A) (t : Int) = if k = 1 then decide (lo l W t ≤ lo l W A) else decide (lo l W A < hi l W t) := fun _ t => rfl
  have hstd : ∀ A B, std l W k A B = (decide (lo l W B = lo l W A) && !decide (16 ≤ slp l W A) && !decide (16 ≤ slp l W B) && (decide (k ≠ 1) || dirOk (dirI W A B) (slp l W A) (slp l W B)) && !(btw W A B).any (badT l W k (lo l W A))) := fun _ _ => rfl
  have hlo : ∀ t, lo l W t = lo4 (cn0 l W t) (cn1 l W t) (cn2 l W t) (cn3 l W t) := fun _ => rfl
  have hhi : ∀ t, hi l W t = hi4 (cn0 l W t) (cn1 l W t) (cn2 l W t) (cn3 l W t) := fun _ => rfl
  obtain ⟨w, hh, nl, xs⟩ := l
  obtain ⟨rfl, rfl, w4, w32, h4, h32, len, rg⟩ := g
  dsimp only [vC] at hf hgp hbt hba hsl hco
  have hfold : ∀ A B : Nat, std ⟨W, H, nl, xs⟩ W k A B = std ⟨W, H, nl, xs⟩ W k A B := fun _ _ => rfl
  generalize sErr ⟨W, H, nl, xs⟩ W H k a b u = se at *
  generalize std ⟨W, H, nl, xs⟩ W k = sd at *
  generalize lo ⟨W, H, nl, xs⟩ W = L at *
  generalize hi ⟨W, H, nl, xs⟩ W = U at *
  generalize slp ⟨W, H, nl, xs⟩ W = S at *
  generalize cn0 ⟨W, H, nl, xs⟩ W = z0 at *
  generalize cn1 ⟨W, H, nl, xs⟩ W = z1 at *
  generalize cn2 ⟨W, H, nl, xs⟩ W = z2 at *
  generalize cn3 ⟨W, H, nl, xs⟩ W = z3 at *
  generalize badT ⟨W, H, nl, xs⟩ W k = bt at *
  refine R_of_G (F := pf30) rfl rfl rfl ?_
  simp (disch := first | omega | with_unfolding_all rfl) [pf30, env0_eq, hf]
  by_cases c1 : k < 0
  · rw [if_pos (by omega)] at hse
    simp (disch := first | omega | with_unfolding_all rfl) [c1, hse]
  by_cases c2 : 1 < k
  · rw [if_pos (by omega)] at hse
    simp (disch := first | omega | with_unfolding_all rfl) [c1, c2, hse]
  by_cases c3 : u < 0
  · rw [if_pos (by omega)] at hse
    simp (disch := first | omega | with_unfolding_all rfl) [c1, c2, c3, hse]
  by_cases c4 : 1 < u
  · rw [if_pos (by omega)] at hse
    simp (disch := first | omega | with_unfolding_all rfl) [c1, c2, c3, c4, hse]
  rw [if_neg (by omega)] at hse
  simp (disch := first | omega | with_unfolding_all rfl) [c1, c2, c3, c4, hm]
  by_cases c5 : a < 0
  · rw [if_pos (by omega)] at hse
    simp (disch := first | omega | with_unfolding_all rfl) [c5, hse]
  by_cases c6 : (N : Int) ≤ a
  · rw [if_pos (by omega)] at hse
    simp (disch := first | omega | with_unfolding_all rfl) [c5, c6, hse]
  by_cases c7 : b < 0
  · rw [if_pos (by omega)] at hse
    simp (disch := first | omega | with_unfolding_all rfl) [c5, c6, c7, hse]
  by_cases c8 : (N : Int) ≤ b
  · rw [if_pos (by omega)] at hse
    simp (disch := first | omega | with_unfolding_all rfl) [c5, c6, c7, c8, hse]
  rw [if_neg (by omega)] at hse
  obtain ⟨A, rfl⟩ : ∃ A : Nat, a = A := ⟨a.toNat, by omega⟩
  obtain ⟨B, rfl⟩ : ∃ B : Nat, b = B := ⟨b.toNat, by omega⟩
  have hgp := hgp A B (by omega) (by omega)
  simp (disch := first | omega | with_unfolding_all rfl) [c5, c6, c7, c8]
  by_cases c9 : (B : Int) ≤ A
  · have : byI W A B = 0 := by rw [byI_gap, if_pos c9]
    rw [if_pos this] at hse
    have c9' : B ≤ A := by omega
    simp (disch := first | omega | with_unfolding_all rfl) [c9', hse]
  have c9' : ¬ B ≤ A := by omega
  simp (disch := first | omega | with_unfolding_all rfl) [c9', hgp]
  by_cases c10 : gapI W A B = 0
  · have : byI W A B = 0 := by rw [byI_gap, if_neg c9]; exact c10
    rw [if_pos this] at hse
    simp (disch := first | omega | with_unfolding_all rfl) [c10, hse]
  have hd : byI W A B ≠ 0 := by rw [byI_gap, if_neg c9]; exact c10
  rw [if_neg hd] at hse
  have hrng := hrng A B (by omega) (by omega) hd
  have hbt := hbt A B (by omega) (by omega) c10
  have hstd := hstd A B
  rw [Int.toNat_natCast, Int.toNat_natCast] at hse
  generalize btw W A B = ts at *
  simp (disch := first | omega | with_unfolding_all rfl) [c10, hbt]
  by_cases c11 : ts = []
  · subst c11
    rw [if_pos (.inl (by simp))] at hse
    simp (disch := first | omega | with_unfolding_all rfl) [hse]
  have c11' : 0 < ts.length := List.length_pos_iff.2 c11
  simp (disch := first | omega | with_unfolding_all rfl) [c11]
  by_cases c12 : (10 : Int) < ts.length
  · rw [if_pos (.inr (by omega))] at hse
    simp (disch := first | omega | with_unfolding_all rfl) [c12, hse]
  rw [if_neg (by omega)] at hse
  simp (disch := first | omega | with_unfolding_all rfl) [c12, hba A (by omega), hba B (by omega)]
  by_cases c13 : L B = L A
  case neg =>
    have h5 : se = 5 := by rw [hse, hstd]; simp [c13]
    simp (disch := first | omega | with_unfolding_all rfl) [c13, h5]
  simp (disch := first | omega | with_unfolding_all rfl) [c13, hsl A (by omega), hsl B (by omega)]
  by_cases c14 : 16 ≤ S A
  · have h5 : se = 5 := by rw [hse, hstd]; simp [c14]
    simp (disch := first | omega | with_unfolding_all rfl) [c14, h5]
  simp (disch := first | omega | with_unfolding_all rfl) [c14, hsl B (by omega)]
  by_cases c15 : 16 ≤ S B
  · have h5 : se = 5 := by rw [hse, hstd]; simp [c15]
    simp (disch := first | omega | with_unfolding_all rfl) [c15, h5]
  simp (disch := first | omega | with_unfolding_all rfl) [c15]
  refine G_scan (fun i e h => h = [] ∧ get e 2 = .pptr (!(nl != .bor)) [.int .i64 (W : Int), .int .i64 (H : Int), lst nl xs] 0 ∧ get e 3 = .pptr false [.int .i64 k, .int .i64 (A : Int), .int .i64 (B : Int), .int .i64 u] 0 ∧ get e 6 = lst .any ts ∧ get e 7 = .int .i64 (L A) ∧ get e 8 = .int .i64 (i : Int))
    (fun i => bt (L A) (zz ts i)) ts.length 0 ?_ (Nat.zero_le _) ?_
  · simp
  · rintro i e h - hi hz ⟨rfl, g2, g3, g6, g7, g8⟩
    simp (disch := first | omega | with_unfolding_all rfl) [g2, g3, g6, g7, g8]
    refine G_brd (fun hlt => ?_) (fun hlt => ?_)
    · obtain ⟨t, ht, hti⟩ := hrng i hlt
      have hbtt := hbd A t
      have hco := hco t ht
      have hzt : zz ts i = (t : Int) := by rw [← zz_get hlt]; exact hti
      rw [← hzt] at hbtt
      simp (disch := first | omega | with_unfolding_all rfl) [hlt]
      refine G_reg_chk ?_ ?_
      · refine all_cons_ck (ckOne_of rfl ?_) (all_cons_ck (ckOne_of rfl ?_) (all_cons_ck (ckOne_of rfl ?_) (all_cons_ck (ckOne_of rfl ?_) (all_cons_ck (ckOne_of rfl ?_) (all_cons_ck (ckOne_of rfl ?_) all_nil_ck)))))
        all_goals simp (disch := first | omega | with_unfolding_all rfl) [hco, hti, hf]
      simp (disch := first | omega | with_unfolding_all rfl) [hco, hti, hf]
      have hbad : bt (L A) (zz ts i) = true → se = 5 := fun hb => by
        have hany : ts.any (bt (L A)) = true := any_at hlt (by rw [zz_get hlt]; exact hb)
        rw [hse, hstd]; simp [hany]
      have hhi := hhi t
      have hlo := hlo t
      obtain rfl | rfl : k = 0 ∨ k = 1 := by omega
      · simp only [show ¬ ((0 : Int) = 1) from by omega, if_false] at hbtt
        rw [G_unroll]
        simp (disch := first | omega | with_unfolding_all rfl) [ixIn, evIaA, evFaddr]
        by_cases q0 : L A < z0 t
        · have h5 : se = 5 := hbad (by rw [hbtt]; simp [hhi, hlo, hi4, lo4]; omega)
          simp (disch := first | omega | with_unfolding_all rfl) [q0, h5, trimOk]
        simp (disch := first | omega | with_unfolding_all rfl) [q0]
        rw [G_unroll]
        simp (disch := first | omega | with_unfolding_all rfl) [ixIn, evIaA, evFaddr]
        by_cases q1 : L A < z1 t
        · have h5 : se = 5 := hbad (by rw [hbtt]; simp [hhi, hlo, hi4, lo4]; omega)
          simp (disch := first | omega | with_unfolding_all rfl) [q1, h5, trimOk]
        simp (disch := first | omega | with_unfolding_all rfl) [q1]
        rw [G_unroll]
        simp (disch := first | omega | with_unfolding_all rfl) [ixIn, evIaA, evFaddr]
        by_cases q2 : L A < z2 t
        · have h5 : se = 5 := hbad (by rw [hbtt]; simp [hhi, hlo, hi4, lo4]; omega)
          simp (disch := first | omega | with_unfolding_all rfl) [q2, h5, trimOk]
        simp (disch := first | omega | with_unfolding_all rfl) [q2]
        rw [G_unroll]
        simp (disch := first | omega | with_unfolding_all rfl) [ixIn, evIaA, evFaddr]
        by_cases q3 : L A < z3 t
        · have h5 : se = 5 := hbad (by rw [hbtt]; simp [hhi, hlo, hi4, lo4]; omega)
          simp (disch := first | omega | with_unfolding_all rfl) [q3, h5, trimOk]
        simp (disch := first | omega | with_unfolding_all rfl) [q3]
        rw [G_unroll]
        have hno : bt (L A) (zz ts i) = false := by rw [hbtt]; simp [hhi, hlo, hi4, lo4]; omega
        simp (disch := first | omega | with_unfolding_all rfl) [hno, hlt, trimOk]
      · simp only [if_true] at hbtt
        rw [G_unroll]
        simp (disch := first | omega | with_unfolding_all rfl) [ixIn, evIaA, evFaddr]
        by_cases q0 : z0 t ≤ L A
        · have h5 : se = 5 := hbad (by rw [hbtt]; simp [hhi, hlo, hi4, lo4]; omega)
          simp (disch := first | omega | with_unfolding_all rfl) [q0, h5, trimOk]
        simp (disch := first | omega | with_unfolding_all rfl) [q0]
        rw [G_unroll]
        simp (disch := first | omega | with_unfolding_all rfl) [ixIn, evIaA, evFaddr]
        by_cases q1 : z1 t ≤ L A
        · have h5 : se = 5 := hbad (by rw [hbtt]; simp [hhi, hlo, hi4, lo4]; omega)
          simp (disch := first | omega | with_unfolding_all rfl) [q1, h5, trimOk]
        simp (disch := first | omega | with_unfolding_all rfl) [q1]
        rw [G_unroll]
        simp (disch := first | omega | with_unfolding_all rfl) [ixIn, evIaA, evFaddr]
        by_cases q2 : z2 t ≤ L A
        · have h5 : se = 5 := hbad (by rw [hbtt]; simp [hhi, hlo, hi4, lo4]; omega)
          simp (disch := first | omega | with_unfolding_all rfl) [q2, h5, trimOk]
        simp (disch := first | omega | with_unfolding_all rfl) [q2]
        rw [G_unroll]
        simp (disch := first | omega | with_unfolding_all rfl) [ixIn, evIaA, evFaddr]
        by_cases q3 : z3 t ≤ L A
        · have h5 : se = 5 := hbad (by rw [hbtt]; simp [hhi, hlo, hi4, lo4]; omega)
          simp (disch := first | omega | with_unfolding_all rfl) [q3, h5, trimOk]
        simp (disch := first | omega | with_unfolding_all rfl) [q3]
        rw [G_unroll]
        have hno : bt (L A) (zz ts i) = false := by rw [hbtt]; simp [hhi, hlo, hi4, lo4]; omega
        simp (disch := first | omega | with_unfolding_all rfl) [hno, hlt, trimOk]
    · have hany : ts.any (bt (L A)) = false := any_upto fun j hj => by rw [zz_get hj]; exact hz j (Nat.zero_le _) (by omega)
      simp (disch := first | omega | with_unfolding_all rfl) [hlt]
      by_cases c16 : k = 1
      · subst c16
        simp (disch := first | omega | with_unfolding_all rfl) [hgp]
        obtain ⟨hg1, hdir⟩ | ⟨hg1, hdir⟩ : (gapI W A B = 1 ∧ dirI W A B = 0) ∨ (gapI W A B ≠ 1 ∧ dirI W A B = 1) := by
          unfold gapI at c10 ⊢
          unfold dirI
          rw [if_neg c9]
          by_cases e1 : (A : Int).tdiv W = (B : Int).tdiv W
          · rw [if_pos e1, if_pos e1]; exact .inl ⟨rfl, rfl⟩
          · rw [if_neg e1] at c10 ⊢
            rw [if_neg e1]
            by_cases e2 : (A : Int).tmod W = (B : Int).tmod W
            · rw [if_pos e2, if_pos e2]; exact .inr ⟨by omega, rfl⟩
            · rw [if_neg e2] at c10; exact absurd rfl c10
        · simp (disch := first | omega | with_unfolding_all rfl) [hg1, hsl A (by omega), hsl B (by omega)]
          by_cases c17 : S A = 6
          case neg =>
            have h5 : se = 5 := by rw [hse, hstd]; simp [hdir, dirOk, c17]
            simp (disch := first | omega | with_unfolding_all rfl) [c17, h5]
          simp (disch := first | omega | with_unfolding_all rfl) [c17, hsl B (by omega)]
          by_cases c18 : S B = 9
          case neg =>
            have h5 : se = 5 := by rw [hse, hstd]; simp [hdir, dirOk, c18]
            simp (disch := first | omega | with_unfolding_all rfl) [c18, h5]
          have h0 : se = 0 := by rw [hse, hstd]; simp [hdir, dirOk, c13, c17, c18, hany]
          simp (disch := first | omega | with_unfolding_all rfl) [c18, h0]
        · simp (disch := first | omega | with_unfolding_all rfl) [hg1, hsl A (by omega), hsl B (by omega)]
          by_cases c17 : S A = 12
          case neg =>
            have h5 : se = 5 := by rw [hse, hstd]; simp [hdir, dirOk, c17]
            simp (disch := first | omega | with_unfolding_all rfl) [c17, h5]
          simp (disch := first | omega | with_unfolding_all rfl) [c17, hsl B (by omega)]
          by_cases c18 : S B = 3
          case neg =>
            have h5 : se = 5 := by rw [hse, hstd]; simp [hdir, dirOk, c18]
            simp (disch := first | omega | with_unfolding_all rfl) [c18, h5]
          have h0 : se = 0 := by rw [hse, hstd]; simp [hdir, dirOk, c13, c17, c18, hany]
          simp (disch := first | omega | with_unfolding_all rfl) [c18, h0]
      · have h0 : se = 0 := by rw [hse, hstd]; simp [c13, c14, c15, c16, hany]
        simp (disch := first | omega | with_unfolding_all rfl) [c16, h0]
end Go.Proofs.Ytpnhdcjfhlcgoaa
