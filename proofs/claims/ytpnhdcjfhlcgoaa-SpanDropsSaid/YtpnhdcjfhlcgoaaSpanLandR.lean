/- Spans: the reference's first error of a land. -/
import Derived.Test.YtpnhdcjfhlcgoaaSpanLand
set_option linter.unusedVariables false
set_option linter.unusedSimpArgs false
set_option maxHeartbeats 2000000
set_option maxRecDepth 20000
namespace Go.Proofs.Ytpnhdcjfhlcgoaa
open Go.Proofs.Ytpnhdcjfhlcgoaa.PM

def ab (a b : Int) : Int := if a < b then b - a else a - b
theorem ab_ap (a b : Int) : decide (1 < ab a b) = ap a b := by
  unfold ab ap
  by_cases h : a < b
  · rw [if_pos h]; by_cases h' : 1 < b - a <;> simp [h'] <;> omega
  · rw [if_neg h]; by_cases h' : 1 < a - b <;> simp [h'] <;> omega
theorem ap_comm (a b : Int) : ap a b = ap b a := by simp [ap, Bool.or_comm]
theorem side_ok {a : Int} : R tb 54 [.int .i64 a] = some (.bool (decide (4 ≤ a) && decide (a ≤ 32))) := by
  refine R_of_G (F := pf54) rfl rfl rfl ?_
  simp (disch := first | omega | with_unfolding_all rfl) [pf54, env0_eq]
  refine G_grdd (fun h => ?_) (fun h => ?_)
  · simp (disch := first | omega | with_unfolding_all rfl) [h]
  · simp (disch := first | omega | with_unfolding_all rfl) [h]
theorem apartR_ok {a b : Int} (ha : 0 ≤ a ∧ a ≤ 15) (hb : 0 ≤ b ∧ b ≤ 15) : R tb 55 [.int .i64 a, .int .i64 b] = some (.int .i64 (ab a b)) := by
  refine R_of_G (F := pf55) rfl rfl rfl ?_
  simp (disch := first | omega | with_unfolding_all rfl) [pf55, env0_eq]
  refine G_brd (fun h => ?_) (fun h => ?_)
  · simp (disch := first | omega | with_unfolding_all rfl) [h, ab]
  · simp (disch := first | omega | with_unfolding_all rfl) [h, ab]
def st2 (w : Nat) (xs : List Int) (i : Nat) : Bool := (decide (0 < i % (w + 1)) && ap (zz xs i) (zz xs (i - 1))) || (decide (w < i) && ap (zz xs i) (zz xs (i - w - 1)))
theorem any_st (w h : Nat) (xs : List Int) : anyN (st2 w xs) 0 ((w + 1) * (h + 1)) = anyN (row1 w h xs) 0 (h + 1) := by
  rw [Bool.eq_iff_iff]
  constructor
  · intro hh
    obtain ⟨i, -, hi, hs⟩ := anyN_of hh
    have hdm : (w + 1) * (i / (w + 1)) + i % (w + 1) = i := Nat.div_add_mod i (w + 1)
    have hm : i % (w + 1) < w + 1 := Nat.mod_lt _ (by omega)
    have hq : i / (w + 1) < h + 1 := Nat.div_lt_of_lt_mul hi
    have hc := Nat.mul_comm (w + 1) (i / (w + 1))
    generalize i / (w + 1) = y at *
    generalize hx : i % (w + 1) = x at *
    simp only [st2, Bool.or_eq_true, Bool.and_eq_true, decide_eq_true_eq, hx] at hs
    rcases hs with ⟨h1, h2⟩ | ⟨h1, h2⟩
    · refine anyN_t (Nat.zero_le y) (by omega) (anyN_t (Nat.zero_le (x - 1)) (by omega) ?_)
      simp only [st1, Bool.or_eq_true, Bool.and_eq_true, decide_eq_true_eq]
      refine .inl ⟨by omega, ?_⟩
      rw [ap_comm, show y * (w + 1) + (x - 1) + 1 = i from by omega, show y * (w + 1) + (x - 1) = i - 1 from by omega]
      exact h2
    · have hy : y ≠ 0 := by rintro rfl; omega
      obtain ⟨y', rfl⟩ : ∃ y', y = y' + 1 := ⟨y - 1, by omega⟩
      have hs : (y' + 1) * (w + 1) = y' * (w + 1) + (w + 1) := Nat.succ_mul _ _
      refine anyN_t (Nat.zero_le y') (by omega) (anyN_t (Nat.zero_le x) (by omega) ?_)
      simp only [st1, Bool.or_eq_true, Bool.and_eq_true, decide_eq_true_eq]
      refine .inr ⟨by omega, ?_⟩
      rw [ap_comm, show (y' + 1) * (w + 1) + x = i from by omega, show y' * (w + 1) + x = i - w - 1 from by omega]
      exact h2
  · intro hh
    obtain ⟨y, -, hy, hs⟩ := anyN_of hh
    obtain ⟨x, -, hx, hs⟩ := anyN_of hs
    have hle : y * (w + 1) + (w + 1) ≤ (w + 1) * (h + 1) := by rw [← Nat.succ_mul, Nat.mul_comm (w + 1)]; exact Nat.mul_le_mul_right _ (by omega)
    have hmod : ∀ k, k < w + 1 → (y * (w + 1) + k) % (w + 1) = k := fun k hk => by
      rw [Nat.mul_comm, Nat.mul_add_mod, Nat.mod_eq_of_lt hk]
    simp only [st1, Bool.or_eq_true, Bool.and_eq_true, decide_eq_true_eq] at hs
    rcases hs with ⟨h1, h2⟩ | ⟨h1, h2⟩
    · refine anyN_t (Nat.zero_le (y * (w + 1) + (x + 1))) (by omega) ?_
      simp only [st2, Bool.or_eq_true, Bool.and_eq_true, decide_eq_true_eq]
      refine .inl ⟨by rw [hmod _ (by omega)]; omega, ?_⟩
      rw [ap_comm]
      exact h2
    · have hs : (y + 1) * (w + 1) = y * (w + 1) + (w + 1) := Nat.succ_mul _ _
      have hle2 : (y + 1) * (w + 1) + (w + 1) ≤ (w + 1) * (h + 1) := by rw [← Nat.succ_mul, Nat.mul_comm (w + 1)]; exact Nat.mul_le_mul_right _ (by omega)
      refine anyN_t (Nat.zero_le ((y + 1) * (w + 1) + x)) (by omega) ?_
      simp only [st2, Bool.or_eq_true, Bool.and_eq_true, decide_eq_true_eq]
      refine .inr ⟨by omega, ?_⟩
      rw [ap_comm, show (y + 1) * (w + 1) + x - w - 1 = y * (w + 1) + x from by omega]
      exact h2

theorem landR_ok (l : Ld) (hf : l.nl ≠ .bor) (hb : l.xs.length ≤ 3000) : R tb 29 [vL l] = some (.int .i64 (landErr l)) := by
  obtain ⟨w, h, nl, xs⟩ := l
  dsimp only at hf hb
  refine R_of_G (F := pf29) rfl rfl rfl ?_
  simp (disch := first | omega | with_unfolding_all rfl) [pf29, env0_eq, hf, side_ok]
  by_cases h1 : 4 ≤ w
  case neg =>
    have : dims ⟨w, h, nl, xs⟩ = false := by simp [dims]; omega
    simp (disch := first | omega | with_unfolding_all rfl) [h1, landErr, this]
  by_cases h2 : w ≤ 32
  case neg =>
    have : dims ⟨w, h, nl, xs⟩ = false := by simp [dims]; omega
    simp (disch := first | omega | with_unfolding_all rfl) [h1, h2, landErr, this]
  by_cases h3 : 4 ≤ h
  case neg =>
    have : dims ⟨w, h, nl, xs⟩ = false := by simp [dims]; omega
    simp (disch := first | omega | with_unfolding_all rfl) [h1, h2, h3, landErr, this, side_ok]
  by_cases h4 : h ≤ 32
  case neg =>
    have : dims ⟨w, h, nl, xs⟩ = false := by simp [dims]; omega
    simp (disch := first | omega | with_unfolding_all rfl) [h1, h2, h3, h4, landErr, this, side_ok]
  obtain ⟨W, rfl⟩ : ∃ W : Nat, w = W := ⟨w.toNat, by omega⟩
  obtain ⟨H, rfl⟩ : ∃ H : Nat, h = H := ⟨h.toNat, by omega⟩
  have hmul : ((W : Int) + 1) * ((H : Int) + 1) ≤ 33 * 33 := Int.mul_le_mul (by omega) (by omega) (by omega) (by omega)
  have hmul0 : 0 ≤ ((W : Int) + 1) * ((H : Int) + 1) := Int.mul_nonneg (by omega) (by omega)
  by_cases h5 : (xs.length : Int) = ((W : Int) + 1) * ((H : Int) + 1)
  case neg =>
    have : dims ⟨W, H, nl, xs⟩ = false := by simp [dims]; omega
    simp (disch := first | omega | with_unfolding_all rfl) [h1, h2, h3, h4, h5, landErr, this, side_ok]
  have hd : dims ⟨W, H, nl, xs⟩ = true := by simp [dims]; omega
  simp (disch := first | omega | with_unfolding_all rfl) [h1, h2, h3, h4, h5, side_ok]
  have hnn : ((xs.length : Nat) : Int) = ((W : Int) + 1) * ((H : Int) + 1) := h5
  have hN : xs.length = (W + 1) * (H + 1) := by exact_mod_cast h5
  rw [← h5]
  refine G_scan (fun i e h => h = [] ∧ get e 1 = .pptr (!(nl != .bor)) [.int .i64 (W : Int), .int .i64 (H : Int), lst nl xs] 0 ∧ get e 31 = lst nl xs ∧ get e 32 = .int .i64 (xs.length : Int) ∧ get e 33 = .int .i64 (i : Int))
    (badZ xs) xs.length 0 ?_ (Nat.zero_le _) ?_
  · simp
  rintro i e h - hi hz ⟨rfl, g1, g40, g41, g42⟩
  simp (disch := first | omega | with_unfolding_all rfl) [g1, g40, g41, g42]
  refine G_brd (fun h => ?_) (fun h => ?_)
  · simp (disch := first | omega | with_unfolding_all rfl) [h]
    simp only [zz_get h]
    refine G_grdn (fun h6 => ?_) (fun h6 => ?_)
    · simp (disch := first | omega | with_unfolding_all rfl) [h6]
      refine G_brd (fun h7 => ?_) (fun h7 => ?_)
      · have hn : anyN (badZ xs) 0 xs.length = true := anyN_t (Nat.zero_le i) h (by simp [badZ, h6, h7])
        simp (disch := first | omega | with_unfolding_all rfl) [h7, landErr, hd, hn]
      · simp (disch := first | omega | with_unfolding_all rfl) [h7, badZ, h6]
    · have hn : anyN (badZ xs) 0 xs.length = true := anyN_t (Nat.zero_le i) h (by simp [badZ, h6])
      simp (disch := first | omega | with_unfolding_all rfl) [h6, landErr, hd, hn]
  have hn : anyN (badZ xs) 0 xs.length = false := anyN_f fun j _ hj => hz j (Nat.zero_le _) (by omega)
  have hrg : ∀ j, j < xs.length → 0 ≤ zz xs j ∧ zz xs j ≤ 15 := by
    intro j hj
    have := anyN_off hn (Nat.zero_le j) hj
    simp [badZ] at this
    omega
  simp (disch := first | omega | with_unfolding_all rfl) [h]
  have hap : ∀ i j, i < xs.length → j < xs.length → R tb 55 [.int .i64 (zz xs i), .int .i64 (zz xs j)] = some (.int .i64 (ab (zz xs i) (zz xs j))) := fun i j h1 h2 => apartR_ok (hrg i h1) (hrg j h2)
  clear hz g1 g40 g41 g42 hi
  have hany : anyN (row1 W H xs) 0 (H + 1) = anyN (st2 W xs) 0 xs.length := by rw [hN, any_st]
  refine G_scan (fun i e h => h = [] ∧ get e 1 = .pptr (!(nl != .bor)) [.int .i64 (W : Int), .int .i64 (H : Int), lst nl xs] 0 ∧ get e 45 = lst nl xs ∧ get e 46 = .int .i64 (xs.length : Int) ∧ get e 47 = .int .i64 (i : Int))
    (st2 W xs) xs.length 0 ?_ (Nat.zero_le _) ?_
  · simp
  rintro i e h - hi hz ⟨rfl, g1, g40, g41, g42⟩
  simp (disch := first | omega | with_unfolding_all rfl) [g1, g40, g41, g42]
  refine G_brd (fun h => ?_) (fun h => ?_)
  · have hmd : ((i : Int)).tmod ((W : Int) + 1) = ((i % (W + 1) : Nat) : Int) := by rw [tmod_nn (by omega)]; push_cast; rfl
    have hle : i % (W + 1) ≤ i := Nat.mod_le _ _
    generalize hr : i % (W + 1) = r at hmd hle
    have hst : st2 W xs i = ((decide (0 < r) && ap (zz xs i) (zz xs (i - 1))) || (decide (W < i) && ap (zz xs i) (zz xs (i - W - 1)))) := by rw [← hr]; rfl
    have bad : st2 W xs i = true → landErr ⟨W, H, nl, xs⟩ = 5 := fun hb => by
      have r2 : anyN (st2 W xs) 0 xs.length = true := anyN_t (Nat.zero_le i) (by omega) hb
      simp [landErr, hd, hn, hany, r2]
    have hw0 : ¬ ((W : Int) + 1 = 0) := by omega
    simp (disch := first | omega | with_unfolding_all rfl) [h, hmd, hw0, zz_get]
    by_cases a1 : 0 < r
    · have t1 : ((i : Int) - 1).toNat = i - 1 := by omega
      simp (disch := first | omega | with_unfolding_all rfl) [a1, zz_get, t1, hap, ab_ap]
      cases a2 : ap (zz xs i) (zz xs (i - 1))
      · simp (disch := first | omega | with_unfolding_all rfl) [a2]
        by_cases a3 : W < i
        · have t2 : ((i : Int) - W - 1).toNat = i - W - 1 := by omega
          simp (disch := first | omega | with_unfolding_all rfl) [a3, zz_get, t2, hap, ab_ap]
          cases a4 : ap (zz xs i) (zz xs (i - W - 1))
          · simp (disch := first | omega | with_unfolding_all rfl) [hst, a1, a2, a3, a4]
          · simp (disch := first | omega | with_unfolding_all rfl) [bad (by simp [hst, a3, a4])]
        · simp (disch := first | omega | with_unfolding_all rfl) [a3, hst, a1, a2]
      · simp (disch := first | omega | with_unfolding_all rfl) [bad (by simp [hst, a1, a2])]
    · simp (disch := first | omega | with_unfolding_all rfl) [a1]
      by_cases a3 : W < i
      · have t2 : ((i : Int) - W - 1).toNat = i - W - 1 := by omega
        simp (disch := first | omega | with_unfolding_all rfl) [a3, zz_get, t2, hap, ab_ap]
        cases a4 : ap (zz xs i) (zz xs (i - W - 1))
        · simp (disch := first | omega | with_unfolding_all rfl) [hst, a1, a3, a4]
        · simp (disch := first | omega | with_unfolding_all rfl) [bad (by simp [hst, a3, a4])]
      · simp (disch := first | omega | with_unfolding_all rfl) [a3, hst, a1]
  · have r2 : anyN (st2 W xs) 0 xs.length = false := anyN_f fun j h1 h2 => hz j h1 (by omega)
    simp (disch := first | omega | with_unfolding_all rfl) [h, landErr, hd, hn, hany, r2]
end Go.Proofs.Ytpnhdcjfhlcgoaa
