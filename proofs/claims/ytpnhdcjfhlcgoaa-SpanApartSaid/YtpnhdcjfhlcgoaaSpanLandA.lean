/- Several texts in one: SpanLand, SpanLandR. -/
import Derived.Test.YtpnhdcjfhlcgoaaSpanTab
import Derived.Test.YtpnhdcjfhlcgoaaPmSeventeen
section
set_option linter.unusedVariables false
set_option linter.unusedSimpArgs false
set_option maxHeartbeats 2000000
set_option maxRecDepth 20000
namespace Go.Proofs.Ytpnhdcjfhlcgoaa
open Go.Proofs.Ytpnhdcjfhlcgoaa.PM

structure Ld where
  w : Int
  h : Int
  nl : Nl
  xs : List Int
noncomputable abbrev vL (l : Ld) : PV := vLand l.w l.h l.nl l.xs

def ap (a b : Int) : Bool := decide (1 < a - b) || decide (1 < b - a)
def zz (xs : List Int) (i : Nat) : Int := xs.getD i 0
theorem zz_get {xs : List Int} {i : Nat} (h : i < xs.length) : xs[i] = zz xs i := by simp [zz, h]
theorem apart_ok {a b : Int} (ha : 0 ≤ a ∧ a ≤ 15) (hb : 0 ≤ b ∧ b ≤ 15) : R tb 59 [.int .i64 a, .int .i64 b] = some (.bool (ap a b)) := by
  refine R_of_G (F := pf59) rfl rfl rfl ?_
  simp (disch := first | omega | with_unfolding_all rfl) [pf59, env0_eq]
  refine G_grdn (fun h => ?_) (fun h => ?_)
  · simp (disch := first | omega | with_unfolding_all rfl) [h, ap]
  · simp (disch := first | omega | with_unfolding_all rfl) [h, ap]

/-- The sizes are those of a land. -/
def dims (l : Ld) : Bool := decide (4 ≤ l.w) && decide (l.w ≤ 32) && decide (4 ≤ l.h) && decide (l.h ≤ 32) && decide ((l.xs.length : Int) = (l.w + 1) * (l.h + 1))
def badZ (xs : List Int) (i : Nat) : Bool := decide (zz xs i < 0) || decide (15 < zz xs i)
def st1 (w h : Nat) (xs : List Int) (y x : Nat) : Bool := (decide (x < w) && ap (zz xs (y * (w + 1) + x)) (zz xs (y * (w + 1) + x + 1))) || (decide (y < h) && ap (zz xs (y * (w + 1) + x)) (zz xs ((y + 1) * (w + 1) + x)))
def row1 (w h : Nat) (xs : List Int) (y : Nat) : Bool := anyN (st1 w h xs y) 0 (w + 1)
def landErr (l : Ld) : Int := if dims l = false then 1 else if anyN (badZ l.xs) 0 l.xs.length then 1 else if anyN (row1 l.w.toNat l.h.toNat l.xs) 0 (l.h.toNat + 1) then 5 else 0

theorem landV_ok (l : Ld) (hf : l.nl ≠ .bor) (hb : l.xs.length ≤ 3000) : R tb 31 [vL l] = some (.int .i64 (landErr l)) := by
  obtain ⟨w, h, nl, xs⟩ := l
  dsimp only at hf hb
  refine R_of_G (F := pf31) rfl rfl rfl ?_
  simp (disch := first | omega | with_unfolding_all rfl) [pf31, env0_eq, hf]
  by_cases h1 : w < 4
  · have : dims ⟨w, h, nl, xs⟩ = false := by simp [dims]; omega
    simp (disch := first | omega | with_unfolding_all rfl) [h1, landErr, this]
  by_cases h2 : 32 < w
  · have : dims ⟨w, h, nl, xs⟩ = false := by simp [dims]; omega
    simp (disch := first | omega | with_unfolding_all rfl) [h1, h2, landErr, this]
  by_cases h3 : h < 4
  · have : dims ⟨w, h, nl, xs⟩ = false := by simp [dims]; omega
    simp (disch := first | omega | with_unfolding_all rfl) [h1, h2, h3, landErr, this]
  by_cases h4 : 32 < h
  · have : dims ⟨w, h, nl, xs⟩ = false := by simp [dims]; omega
    simp (disch := first | omega | with_unfolding_all rfl) [h1, h2, h3, h4, landErr, this]
  obtain ⟨W, rfl⟩ : ∃ W : Nat, w = W := ⟨w.toNat, by omega⟩
  obtain ⟨H, rfl⟩ : ∃ H : Nat, h = H := ⟨h.toNat, by omega⟩
  have hmul : ((W : Int) + 1) * ((H : Int) + 1) ≤ 33 * 33 := Int.mul_le_mul (by omega) (by omega) (by omega) (by omega)
  have hmul0 : 0 ≤ ((W : Int) + 1) * ((H : Int) + 1) := Int.mul_nonneg (by omega) (by omega)
  by_cases h5 : (xs.length : Int) = ((W : Int) + 1) * ((H : Int) + 1)
  case neg =>
    have : dims ⟨W, H, nl, xs⟩ = false := by simp [dims]; omega
    simp (disch := first | omega | with_unfolding_all rfl) [h1, h2, h3, h4, h5, landErr, this]
  have hd : dims ⟨W, H, nl, xs⟩ = true := by simp [dims]; omega
  simp (disch := first | omega | with_unfolding_all rfl) [h1, h2, h3, h4, h5]
  have hnn : ((xs.length : Nat) : Int) = ((W : Int) + 1) * ((H : Int) + 1) := h5
  have hN : xs.length = (W + 1) * (H + 1) := by exact_mod_cast h5
  rw [← h5]
  refine G_scan (fun i e h => h = [] ∧ get e 1 = .pptr (!(nl != .bor)) [.int .i64 (W : Int), .int .i64 (H : Int), lst nl xs] 0 ∧ get e 40 = lst nl xs ∧ get e 41 = .int .i64 (xs.length : Int) ∧ get e 42 = .int .i64 (i : Int))
    (badZ xs) xs.length 0 ?_ (Nat.zero_le _) ?_
  · simp
  rintro i e h - hi hz ⟨rfl, g1, g40, g41, g42⟩
  simp (disch := first | omega | with_unfolding_all rfl) [g1, g40, g41, g42]
  refine G_brd (fun h => ?_) (fun h => ?_)
  · simp (disch := first | omega | with_unfolding_all rfl) [h]
    simp only [zz_get h]
    refine G_grdn (fun h6 => ?_) (fun h6 => ?_)
    · simp (disch := first | omega | with_unfolding_all rfl) [h6]
      refine G_brd (fun h7 => ?_) (fun h7 => ?_)
      · have hn : anyN (badZ xs) 0 xs.length = true := anyN_t (Nat.zero_le i) h (by simp [badZ, h6, h7])
        simp (disch := first | omega | with_unfolding_all rfl) [h7, landErr, hd, hn]
      · simp (disch := first | omega | with_unfolding_all rfl) [h7, badZ, h6]
    · have hn : anyN (badZ xs) 0 xs.length = true := anyN_t (Nat.zero_le i) h (by simp [badZ, h6])
      simp (disch := first | omega | with_unfolding_all rfl) [h6, landErr, hd, hn]
  have hn : anyN (badZ xs) 0 xs.length = false := anyN_f fun j _ hj => hz j (Nat.zero_le _) (by omega)
  have hrg : ∀ j, j < xs.length → 0 ≤ zz xs j ∧ zz xs j ≤ 15 := by
    intro j hj
    have := anyN_off hn (Nat.zero_le j) hj
    simp [badZ] at this
    omega
  simp (disch := first | omega | with_unfolding_all rfl) [h]
  have hap : ∀ i j, i < xs.length → j < xs.length → R tb 59 [.int .i64 (zz xs i), .int .i64 (zz xs j)] = some (.bool (ap (zz xs i) (zz xs j))) := fun i j h1 h2 => apart_ok (hrg i h1) (hrg j h2)
  clear hz g1 g40 g41 g42 hi
  refine G_scan (fun y e h => h = [] ∧ get e 1 = .pptr (!(nl != .bor)) [.int .i64 (W : Int), .int .i64 (H : Int), lst nl xs] 0 ∧ get e 5 = .int .i64 (y : Int))
    (row1 W H xs) (H + 1) 0 ?_ (Nat.zero_le _) ?_
  · simp
  rintro y e h - hy hzy ⟨rfl, g1, g5⟩
  simp (disch := first | omega | with_unfolding_all rfl) [g1, g5]
  refine G_brd (fun h => ?_) (fun h => ?_)
  · simp (disch := first | omega | with_unfolding_all rfl) [h]
    refine G_scan (fun x e h => h = [] ∧ get e 1 = .pptr (!(nl != .bor)) [.int .i64 (W : Int), .int .i64 (H : Int), lst nl xs] 0 ∧ get e 5 = .int .i64 (y : Int) ∧ get e 6 = .int .i64 (x : Int))
      (st1 W H xs y) (W + 1) 0 ?_ (Nat.zero_le _) ?_
    · simp [g1, g5]
    rintro x e h - hx hzx ⟨rfl, g1, g5, g6⟩
    simp (disch := first | omega | with_unfolding_all rfl) [g1, g5, g6]
    refine G_brd (fun h' => ?_) (fun h' => ?_)
    · obtain ⟨p, hp⟩ : ∃ p : Nat, p = y * (W + 1) := ⟨_, rfl⟩
      obtain ⟨q, hq⟩ : ∃ q : Nat, q = (y + 1) * (W + 1) := ⟨_, rfl⟩
      have hqp : q = p + (W + 1) := by rw [hq, hp]; exact Nat.succ_mul _ _
      have hql : q ≤ xs.length := by rw [hq, hN, Nat.mul_comm (W + 1)]; exact Nat.mul_le_mul_right _ (by omega)
      have hp0 : (y : Int) * ((W : Int) + 1) = (p : Int) := by rw [hp]; push_cast; rfl
      have hq0 : ((y : Int) + 1) * ((W : Int) + 1) = (q : Int) := by rw [hq]; push_cast; rfl
      have hq1 : y < H → q + (W + 1) ≤ xs.length := by
        intro hyH
        rw [hq, ← Nat.succ_mul, hN, Nat.mul_comm (W + 1)]; exact Nat.mul_le_mul_right _ (by omega)
      simp (disch := first | omega | with_unfolding_all rfl) [h', hp0]
      have t1 : ((p : Int) + (x : Int)).toNat = p + x := by omega
      have t2 : ((p : Int) + (x : Int) + 1).toNat = p + x + 1 := by omega
      have t3 : ((q : Int) + (x : Int)).toNat = q + x := by omega
      have hst : st1 W H xs y x = ((decide (x < W) && ap (zz xs (p + x)) (zz xs (p + x + 1))) || (decide (y < H) && ap (zz xs (p + x)) (zz xs (q + x)))) := by rw [hp, hq]; rfl
      have bad : st1 W H xs y x = true → landErr ⟨W, H, nl, xs⟩ = 5 := fun hb => by
        have r1 : row1 W H xs y = true := anyN_t (Nat.zero_le x) (by omega) hb
        have r2 : anyN (row1 W H xs) 0 (H + 1) = true := anyN_t (Nat.zero_le y) (by omega) r1
        simp [landErr, hd, hn, r2]
      by_cases a1 : x < W
      · simp (disch := first | omega | with_unfolding_all rfl) [a1, hp0, zz_get, t1, t2, hap]
        cases a2 : ap (zz xs (p + x)) (zz xs (p + x + 1))
        · simp (disch := first | omega | with_unfolding_all rfl) [a2]
          by_cases a3 : y < H
          · simp (disch := first | omega | with_unfolding_all rfl) [a3, hq0, zz_get, t1, t3, hap]
            cases a4 : ap (zz xs (p + x)) (zz xs (q + x))
            · simp (disch := first | omega | with_unfolding_all rfl) [hst, a1, a2, a3, a4]
              omega
            · simp (disch := first | omega | with_unfolding_all rfl) [bad (by simp [hst, a3, a4])]
          · simp (disch := first | omega | with_unfolding_all rfl) [a3, hst, a1, a2]
            omega
        · simp (disch := first | omega | with_unfolding_all rfl) [bad (by simp [hst, a1, a2])]
      · simp (disch := first | omega | with_unfolding_all rfl) [a1]
        by_cases a3 : y < H
        · simp (disch := first | omega | with_unfolding_all rfl) [a3, hq0, zz_get, t1, t3, hap]
          cases a4 : ap (zz xs (p + x)) (zz xs (q + x))
          · simp (disch := first | omega | with_unfolding_all rfl) [hst, a1, a3, a4]
            omega
          · simp (disch := first | omega | with_unfolding_all rfl) [bad (by simp [hst, a3, a4])]
        · simp (disch := first | omega | with_unfolding_all rfl) [a3, hst, a1]
          omega
    · have r1 : row1 W H xs y = false := anyN_f fun j h1 h2 => hzx j h1 (by omega)
      simp (disch := first | omega | with_unfolding_all rfl) [h', r1]
      omega
  · have r2 : anyN (row1 W H xs) 0 (H + 1) = false := anyN_f fun j h1 h2 => hzy j h1 (by omega)
    simp (disch := first | omega | with_unfolding_all rfl) [h, landErr, hd, hn, r2]
end Go.Proofs.Ytpnhdcjfhlcgoaa
end

section
set_option linter.unusedVariables false
set_option linter.unusedSimpArgs false
set_option maxHeartbeats 2000000
set_option maxRecDepth 20000
namespace Go.Proofs.Ytpnhdcjfhlcgoaa
open Go.Proofs.Ytpnhdcjfhlcgoaa.PM

def ab (a b : Int) : Int := if a < b then b - a else a - b
theorem ab_ap (a b : Int) : decide (1 < ab a b) = ap a b := by
  unfold ab ap
  by_cases h : a < b
  · rw [if_pos h]; by_cases h' : 1 < b - a <;> simp [h'] <;> omega
  · rw [if_neg h]; by_cases h' : 1 < a - b <;> simp [h'] <;> omega
theorem ap_comm (a b : Int) : ap a b = ap b a := by simp [ap, Bool.or_comm]
theorem side_ok {a : Int} : R tb 54 [.int .i64 a] = some (.bool (decide (4 ≤ a) && decide (a ≤ 32))) := by
  refine R_of_G (F := pf54) rfl rfl rfl ?_
  simp (disch := first | omega | with_unfolding_all rfl) [pf54, env0_eq]
  refine G_grdd (fun h => ?_) (fun h => ?_)
  · simp (disch := first | omega | with_unfolding_all rfl) [h]
  · simp (disch := first | omega | with_unfolding_all rfl) [h]
theorem apartR_ok {a b : Int} (ha : 0 ≤ a ∧ a ≤ 15) (hb : 0 ≤ b ∧ b ≤ 15) : R tb 55 [.int .i64 a, .int .i64 b] = some (.int .i64 (ab a b)) := by
  refine R_of_G (F := pf55) rfl rfl rfl ?_
  simp (disch := first | omega | with_unfolding_all rfl) [pf55, env0_eq]
  refine G_brd (fun h => ?_) (fun h => ?_)
  · simp (disch := first | omega | with_unfolding_all rfl) [h, ab]
  · simp (disch := first | omega | with_unfolding_all rfl) [h, ab]
def st2 (w : Nat) (xs : List Int) (i : Nat) : Bool := (decide (0 < i % (w + 1)) && ap (zz xs i) (zz xs (i - 1))) || (decide (w < i) && ap (zz xs i) (zz xs (i - w - 1)))
theorem any_st (w h : Nat) (xs : List Int) : anyN (st2 w xs) 0 ((w + 1) * (h + 1)) = anyN (row1 w h xs) 0 (h + 1) := by
  rw [Bool.eq_iff_iff]
  constructor
  · intro hh
    obtain ⟨i, -, hi, hs⟩ := anyN_of hh
    have hdm : (w + 1) * (i / (w + 1)) + i % (w + 1) = i := Nat.div_add_mod i (w + 1)
    have hm : i % (w + 1) < w + 1 := Nat.mod_lt _ (by omega)
    have hq : i / (w + 1) < h + 1 := Nat.div_lt_of_lt_mul hi
    have hc := Nat.mul_comm (w + 1) (i / (w + 1))
    generalize i / (w + 1) = y at *
    generalize hx : i % (w + 1) = x at *
    simp only [st2, Bool.or_eq_true, Bool.and_eq_true, decide_eq_true_eq, hx] at hs
    rcases hs with ⟨h1, h2⟩ | ⟨h1, h2⟩
    · refine anyN_t (Nat.zero_le y) (by omega) (anyN_t (Nat.zero_le (x - 1)) (by omega) ?_)
      simp only [st1, Bool.or_eq_true, Bool.and_eq_true, decide_eq_true_eq]
      refine .inl ⟨by omega, ?_⟩
      rw [ap_comm, show y * (w + 1) + (x - 1) + 1 = i from by omega, show y * (w + 1) + (x - 1) = i - 1 from by omega]
      exact h2
    · have hy : y ≠ 0 := by rintro rfl; omega
      obtain ⟨y', rfl⟩ : ∃ y', y = y' + 1 := ⟨y - 1, by omega⟩
      have hs : (y' + 1) * (w + 1) = y' * (w + 1) + (w + 1) := Nat.succ_mul _ _
      refine anyN_t (Nat.zero_le y') (by omega) (anyN_t (Nat.zero_le x) (by omega) ?_)
      simp only [st1, Bool.or_eq_true, Bool.and_eq_true, decide_eq_true_eq]
      refine .inr ⟨by omega, ?_⟩
      rw [ap_comm, show (y' + 1) * (w + 1) + x = i from by omega, show y' * (w + 1) + x = i - w - 1 from by omega]
      exact h2
  · intro hh
    obtain ⟨y, -, hy, hs⟩ := anyN_of hh
    obtain ⟨x, -, hx, hs⟩ := anyN_of hs
    have hle : y * (w + 1) + (w + 1) ≤ (w + 1) * (h + 1) := by rw [← Nat.succ_mul, Nat.mul_comm (w + 1)]; exact Nat.mul_le_mul_right _ (by omega)
    have hmod : ∀ k, k < w + 1 → (y * (w + 1) + k) % (w + 1) = k := fun k hk => by
      rw [Nat.mul_comm, Nat.mul_add_mod, Nat.mod_eq_of_lt hk]
    simp only [st1, Bool.or_eq_true, Bool.and_eq_true, decide_eq_true_eq] at hs
    rcases hs with ⟨h1, h2⟩ | ⟨h1, h2⟩
    · refine anyN_t (Nat.zero_le (y * (w + 1) + (x + 1))) (by omega) ?_
      simp only [st2, Bool.or_eq_true, Bool.and_eq_true, decide_eq_true_eq]
      refine .inl ⟨by rw [hmod _ (by omega)]; omega, ?_⟩
      rw [ap_comm]
      exact h2
    · have hs : (y + 1) * (w + 1) = y * (w + 1) + (w + 1) := Nat.succ_mul _ _
      have hle2 : (y + 1) * (w + 1) + (w + 1) ≤ (w + 1) * (h + 1) := by rw [← Nat.succ_mul, Nat.mul_comm (w + 1)]; exact Nat.mul_le_mul_right _ (by omega)
      refine anyN_t (Nat.zero_le ((y + 1) * (w + 1) + x)) (by omega) ?_
      simp only [st2, Bool.or_eq_true, Bool.and_eq_true, decide_eq_true_eq]
      refine .inr ⟨by omega, ?_⟩
      rw [ap_comm, show (y + 1) * (w + 1) + x - w - 1 = y * (w + 1) + x from by omega]
      exact h2

theorem landR_ok (l : Ld) (hf : l.nl ≠ .bor) (hb : l.xs.length ≤ 3000) : R tb 29 [vL l] = some (.int .i64 (landErr l)) := by
  obtain ⟨w, h, nl, xs⟩ := l
  dsimp only at hf hb
  refine R_of_G (F := pf29) rfl rfl rfl ?_
  simp (disch := first | omega | with_unfolding_all rfl) [pf29, env0_eq, hf, side_ok]
  by_cases h1 : 4 ≤ w
  case neg =>
    have : dims ⟨w, h, nl, xs⟩ = false := by simp [dims]; omega
    simp (disch := first | omega | with_unfolding_all rfl) [h1, landErr, this]
  by_cases h2 : w ≤ 32
  case neg =>
    have : dims ⟨w, h, nl, xs⟩ = false := by simp [dims]; omega
    simp (disch := first | omega | with_unfolding_all rfl) [h1, h2, landErr, this]
  by_cases h3 : 4 ≤ h
  case neg =>
    have : dims ⟨w, h, nl, xs⟩ = false := by simp [dims]; omega
    simp (disch := first | omega | with_unfolding_all rfl) [h1, h2, h3, landErr, this, side_ok]
  by_cases h4 : h ≤ 32
  case neg =>
    have : dims ⟨w, h, nl, xs⟩ = false := by simp [dims]; omega
    simp (disch := first | omega | with_unfolding_all rfl) [h1, h2, h3, h4, landErr, this, side_ok]
  obtain ⟨W, rfl⟩ : ∃ W : Nat, w = W := ⟨w.toNat, by omega⟩
  obtain ⟨H, rfl⟩ : ∃ H : Nat, h = H := ⟨h.toNat, by omega⟩
  have hmul : ((W : Int) + 1) * ((H : Int) + 1) ≤ 33 * 33 := Int.mul_le_mul (by omega) (by omega) (by omega) (by omega)
  have hmul0 : 0 ≤ ((W : Int) + 1) * ((H : Int) + 1) := Int.mul_nonneg (by omega) (by omega)
  by_cases h5 : (xs.length : Int) = ((W : Int) + 1) * ((H : Int) + 1)
  case neg =>
    have : dims ⟨W, H, nl, xs⟩ = false := by simp [dims]; omega
    simp (disch := first | omega | with_unfolding_all rfl) [h1, h2, h3, h4, h5, landErr, this, side_ok]
  have hd : dims ⟨W, H, nl, xs⟩ = true := by simp [dims]; omega
  simp (disch := first | omega | with_unfolding_all rfl) [h1, h2, h3, h4, h5, side_ok]
  have hnn : ((xs.length : Nat) : Int) = ((W : Int) + 1) * ((H : Int) + 1) := h5
  have hN : xs.length = (W + 1) * (H + 1) := by exact_mod_cast h5
  rw [← h5]
  refine G_scan (fun i e h => h = [] ∧ get e 1 = .pptr (!(nl != .bor)) [.int .i64 (W : Int), .int .i64 (H : Int), lst nl xs] 0 ∧ get e 31 = lst nl xs ∧ get e 32 = .int .i64 (xs.length : Int) ∧ get e 33 = .int .i64 (i : Int))
    (badZ xs) xs.length 0 ?_ (Nat.zero_le _) ?_
  · simp
  rintro i e h - hi hz ⟨rfl, g1, g40, g41, g42⟩
  simp (disch := first | omega | with_unfolding_all rfl) [g1, g40, g41, g42]
  refine G_brd (fun h => ?_) (fun h => ?_)
  · simp (disch := first | omega | with_unfolding_all rfl) [h]
    simp only [zz_get h]
    refine G_grdn (fun h6 => ?_) (fun h6 => ?_)
    · simp (disch := first | omega | with_unfolding_all rfl) [h6]
      refine G_brd (fun h7 => ?_) (fun h7 => ?_)
      · have hn : anyN (badZ xs) 0 xs.length = true := anyN_t (Nat.zero_le i) h (by simp [badZ, h6, h7])
        simp (disch := first | omega | with_unfolding_all rfl) [h7, landErr, hd, hn]
      · simp (disch := first | omega | with_unfolding_all rfl) [h7, badZ, h6]
    · have hn : anyN (badZ xs) 0 xs.length = true := anyN_t (Nat.zero_le i) h (by simp [badZ, h6])
      simp (disch := first | omega | with_unfolding_all rfl) [h6, landErr, hd, hn]
  have hn : anyN (badZ xs) 0 xs.length = false := anyN_f fun j _ hj => hz j (Nat.zero_le _) (by omega)
  have hrg : ∀ j, j < xs.length → 0 ≤ zz xs j ∧ zz xs j ≤ 15 := by
    intro j hj
    have := anyN_off hn (Nat.zero_le j) hj
    simp [badZ] at this
    omega
  simp (disch := first | omega | with_unfolding_all rfl) [h]
  have hap : ∀ i j, i < xs.length → j < xs.length → R tb 55 [.int .i64 (zz xs i), .int .i64 (zz xs j)] = some (.int .i64 (ab (zz xs i) (zz xs j))) := fun i j h1 h2 => apartR_ok (hrg i h1) (hrg j h2)
  clear hz g1 g40 g41 g42 hi
  have hany : anyN (row1 W H xs) 0 (H + 1) = anyN (st2 W xs) 0 xs.length := by rw [hN, any_st]
  refine G_scan (fun i e h => h = [] ∧ get e 1 = .pptr (!(nl != .bor)) [.int .i64 (W : Int), .int .i64 (H : Int), lst nl xs] 0 ∧ get e 45 = lst nl xs ∧ get e 46 = .int .i64 (xs.length : Int) ∧ get e 47 = .int .i64 (i : Int))
    (st2 W xs) xs.length 0 ?_ (Nat.zero_le _) ?_
  · simp
  rintro i e h - hi hz ⟨rfl, g1, g40, g41, g42⟩
  simp (disch := first | omega | with_unfolding_all rfl) [g1, g40, g41, g42]
  refine G_brd (fun h => ?_) (fun h => ?_)
  · have hmd : ((i : Int)).tmod ((W : Int) + 1) = ((i % (W + 1) : Nat) : Int) := by rw [tmod_nn (by omega)]; push_cast; rfl
    have hle : i % (W + 1) ≤ i := Nat.mod_le _ _
    generalize hr : i % (W + 1) = r at hmd hle
    have hst : st2 W xs i = ((decide (0 < r) && ap (zz xs i) (zz xs (i - 1))) || (decide (W < i) && ap (zz xs i) (zz xs (i - W - 1)))) := by rw [← hr]; rfl
    have bad : st2 W xs i = true → landErr ⟨W, H, nl, xs⟩ = 5 := fun hb => by
      have r2 : anyN (st2 W xs) 0 xs.length = true := anyN_t (Nat.zero_le i) (by omega) hb
      simp [landErr, hd, hn, hany, r2]
    have hw0 : ¬ ((W : Int) + 1 = 0) := by omega
    simp (disch := first | omega | with_unfolding_all rfl) [h, hmd, hw0, zz_get]
    by_cases a1 : 0 < r
    · have t1 : ((i : Int) - 1).toNat = i - 1 := by omega
      simp (disch := first | omega | with_unfolding_all rfl) [a1, zz_get, t1, hap, ab_ap]
      cases a2 : ap (zz xs i) (zz xs (i - 1))
      · simp (disch := first | omega | with_unfolding_all rfl) [a2]
        by_cases a3 : W < i
        · have t2 : ((i : Int) - W - 1).toNat = i - W - 1 := by omega
          simp (disch := first | omega | with_unfolding_all rfl) [a3, zz_get, t2, hap, ab_ap]
          cases a4 : ap (zz xs i) (zz xs (i - W - 1))
          · simp (disch := first | omega | with_unfolding_all rfl) [hst, a1, a2, a3, a4]
          · simp (disch := first | omega | with_unfolding_all rfl) [bad (by simp [hst, a3, a4])]
        · simp (disch := first | omega | with_unfolding_all rfl) [a3, hst, a1, a2]
      · simp (disch := first | omega | with_unfolding_all rfl) [bad (by simp [hst, a1, a2])]
    · simp (disch := first | omega | with_unfolding_all rfl) [a1]
      by_cases a3 : W < i
      · have t2 : ((i : Int) - W - 1).toNat = i - W - 1 := by omega
        simp (disch := first | omega | with_unfolding_all rfl) [a3, zz_get, t2, hap, ab_ap]
        cases a4 : ap (zz xs i) (zz xs (i - W - 1))
        · simp (disch := first | omega | with_unfolding_all rfl) [hst, a1, a3, a4]
        · simp (disch := first | omega | with_unfolding_all rfl) [bad (by simp [hst, a3, a4])]
      · simp (disch := first | omega | with_unfolding_all rfl) [a3, hst, a1]
  · have r2 : anyN (st2 W xs) 0 xs.length = false := anyN_f fun j h1 h2 => hz j h1 (by omega)
    simp (disch := first | omega | with_unfolding_all rfl) [h, landErr, hd, hn, hany, r2]
end Go.Proofs.Ytpnhdcjfhlcgoaa
end
