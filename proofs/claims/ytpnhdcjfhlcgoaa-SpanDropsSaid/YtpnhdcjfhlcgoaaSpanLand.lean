/- Spans: the land's first error. -/
import Derived.Test.YtpnhdcjfhlcgoaaSpanTab
import Derived.Test.YtpnhdcjfhlcgoaaPmSeventeen
set_option linter.unusedVariables false
set_option linter.unusedSimpArgs false
set_option maxHeartbeats 2000000
set_option maxRecDepth 20000
namespace Go.Proofs.Ytpnhdcjfhlcgoaa
open Go.Proofs.Ytpnhdcjfhlcgoaa.PM

structure Ld where
  w : Int
  h : Int
  nl : Nl
  xs : List Int
noncomputable abbrev vL (l : Ld) : PV := vLand l.w l.h l.nl l.xs

def ap (a b : Int) : Bool := decide (1 < a - b) || decide (1 < b - a)
def zz (xs : List Int) (i : Nat) : Int := xs.getD i 0
theorem zz_get {xs : List Int} {i : Nat} (h : i < xs.length) : xs[i] = zz xs i := by simp [zz, h]
theorem apart_ok {a b : Int} (ha : 0 ≤ a ∧ a ≤ 15) (hb : 0 ≤ b ∧ b ≤ 15) : R tb 59 [.int .i64 a, .int .i64 b] = some (.bool (ap a b)) := by
  refine R_of_G (F := pf59) rfl rfl rfl ?_
  simp (disch := first | omega | with_unfolding_all rfl) [pf59, env0_eq]
  refine G_grdn (fun h => ?_) (fun h => ?_)
  · simp (disch := first | omega | with_unfolding_all rfl) [h, ap]
  · simp (disch := first | omega | with_unfolding_all rfl) [h, ap]

/-- The sizes are those of a land. -/
def dims (l : Ld) : Bool := decide (4 ≤ l.w) && decide (l.w ≤ 32) && decide (4 ≤ l.h) && decide (l.h ≤ 32) && decide ((l.xs.length : Int) = (l.w + 1) * (l.h + 1))
def badZ (xs : List Int) (i : Nat) : Bool := decide (zz xs i < 0) || decide (15 < zz xs i)
def st1 (w h : Nat) (xs : List Int) (y x : Nat) : Bool := (decide (x < w) && ap (zz xs (y * (w + 1) + x)) (zz xs (y * (w + 1) + x + 1))) || (decide (y < h) && ap (zz xs (y * (w + 1) + x)) (zz xs ((y + 1) * (w + 1) + x)))
def row1 (w h : Nat) (xs : List Int) (y : Nat) : Bool := anyN (st1 w h xs y) 0 (w + 1)
def landErr (l : Ld) : Int := if dims l = false then 1 else if anyN (badZ l.xs) 0 l.xs.length then 1 else if anyN (row1 l.w.toNat l.h.toNat l.xs) 0 (l.h.toNat + 1) then 5 else 0

theorem landV_ok (l : Ld) (hf : l.nl ≠ .bor) (hb : l.xs.length ≤ 3000) : R tb 31 [vL l] = some (.int .i64 (landErr l)) := by
  obtain ⟨w, h, nl, xs⟩ := l
  dsimp only at hf hb
  refine R_of_G (F := pf31) rfl rfl rfl ?_
  simp (disch := first | omega | with_unfolding_all rfl) [pf31, env0_eq, hf]
  by_cases h1 : w < 4
  · have : dims ⟨w, h, nl, xs⟩ = false := by simp [dims]; omega
    simp (disch := first | omega | with_unfolding_all rfl) [h1, landErr, this]
  by_cases h2 : 32 < w
  · have : dims ⟨w, h, nl, xs⟩ = false := by simp [dims]; omega
    simp (disch := first | omega | with_unfolding_all rfl) [h1, h2, landErr, this]
  by_cases h3 : h < 4
  · have : dims ⟨w, h, nl, xs⟩ = false := by simp [dims]; omega
    simp (disch := first | omega | with_unfolding_all rfl) [h1, h2, h3, landErr, this]
  by_cases h4 : 32 < h
  · have : dims ⟨w, h, nl, xs⟩ = false := by simp [dims]; omega
    simp (disch := first | omega | with_unfolding_all rfl) [h1, h2, h3, h4, landErr, this]
  obtain ⟨W, rfl⟩ : ∃ W : Nat, w = W := ⟨w.toNat, by omega⟩
  obtain ⟨H, rfl⟩ : ∃ H : Nat, h = H := ⟨h.toNat, by omega⟩
  have hmul : ((W : Int) + 1) * ((H : Int) + 1) ≤ 33 * 33 := Int.mul_le_mul (by omega) (by omega) (by omega) (by omega)
  have hmul0 : 0 ≤ ((W : Int) + 1) * ((H : Int) + 1) := Int.mul_nonneg (by omega) (by omega)
  by_cases h5 : (xs.length : Int) = ((W : Int) + 1) * ((H : Int) + 1)
  case neg =>
    have : dims ⟨W, H, nl, xs⟩ = false := by simp [dims]; omega
    simp (disch := first | omega | with_unfolding_all rfl) [h1, h2, h3, h4, h5, landErr, this]
  have hd : dims ⟨W, H, nl, xs⟩ = true := by simp [dims]; omega
  simp (disch := first | omega | with_unfolding_all rfl) [h1, h2, h3, h4, h5]
  have hnn : ((xs.length : Nat) : Int) = ((W : Int) + 1) * ((H : Int) + 1) := h5
  have hN : xs.length = (W + 1) * (H + 1) := by exact_mod_cast h5
  rw [← h5]
  refine G_scan (fun i e h => h = [] ∧ get e 1 = .pptr (!(nl != .bor)) [.int .i64 (W : Int), .int .i64 (H : Int), lst nl xs] 0 ∧ get e 40 = lst nl xs ∧ get e 41 = .int .i64 (xs.length : Int) ∧ get e 42 = .int .i64 (i : Int))
    (badZ xs) xs.length 0 ?_ (Nat.zero_le _) ?_
  · simp
  rintro i e h - hi hz ⟨rfl, g1, g40, g41, g42⟩
  simp (disch := first | omega | with_unfolding_all rfl) [g1, g40, g41, g42]
  refine G_brd (fun h => ?_) (fun h => ?_)
  · simp (disch := first | omega | with_unfolding_all rfl) [h]
    simp only [zz_get h]
    refine G_grdn (fun h6 => ?_) (fun h6 => ?_)
    · simp (disch := first | omega | with_unfolding_all rfl) [h6]
      refine G_brd (fun h7 => ?_) (fun h7 => ?_)
      · have hn : anyN (badZ xs) 0 xs.length = true := anyN_t (Nat.zero_le i) h (by simp [badZ, h6, h7])
        simp (disch := first | omega | with_unfolding_all rfl) [h7, landErr, hd, hn]
      · simp (disch := first | omega | with_unfolding_all rfl) [h7, badZ, h6]
    · have hn : anyN (badZ xs) 0 xs.length = true := anyN_t (Nat.zero_le i) h (by simp [badZ, h6])
      simp (disch := first | omega | with_unfolding_all rfl) [h6, landErr, hd, hn]
  have hn : anyN (badZ xs) 0 xs.length = false := anyN_f fun j _ hj => hz j (Nat.zero_le _) (by omega)
  have hrg : ∀ j, j < xs.length → 0 ≤ zz xs j ∧ zz xs j ≤ 15 := by
    intro j hj
    have := anyN_off hn (Nat.zero_le j) hj
    simp [badZ] at this
    omega
  simp (disch := first | omega | with_unfolding_all rfl) [h]
  have hap : ∀ i j, i < xs.length → j < xs.length → R tb 59 [.int .i64 (zz xs i), .int .i64 (zz xs j)] = some (.bool (ap (zz xs i) (zz xs j))) := fun i j h1 h2 => apart_ok (hrg i h1) (hrg j h2)
  clear hz g1 g40 g41 g42 hi
  refine G_scan (fun y e h => h = [] ∧ get e 1 = .pptr (!(nl != .bor)) [.int .i64 (W : Int), .int .i64 (H : Int), lst nl xs] 0 ∧ get e 5 = .int .i64 (y : Int))
    (row1 W H xs) (H + 1) 0 ?_ (Nat.zero_le _) ?_
  · simp
  rintro y e h - hy hzy ⟨rfl, g1, g5⟩
  simp (disch := first | omega | with_unfolding_all rfl) [g1, g5]
  refine G_brd (fun h => ?_) (fun h => ?_)
  · simp (disch := first | omega | with_unfolding_all rfl) [h]
    refine G_scan (fun x e h => h = [] ∧ get e 1 = .pptr (!(nl != .bor)) [.int .i64 (W : Int), .int .i64 (H : Int), lst nl xs] 0 ∧ get e 5 = .int .i64 (y : Int) ∧ get e 6 = .int .i64 (x : Int))
      (st1 W H xs y) (W + 1) 0 ?_ (Nat.zero_le _) ?_
    · simp [g1, g5]
    rintro x e h - hx hzx ⟨rfl, g1, g5, g6⟩
    simp (disch := first | omega | with_unfolding_all rfl) [g1, g5, g6]
    refine G_brd (fun h' => ?_) (fun h' => ?_)
    · obtain ⟨p, hp⟩ : ∃ p : Nat, p = y * (W + 1) := ⟨_, rfl⟩
      obtain ⟨q, hq⟩ : ∃ q : Nat, q = (y + 1) * (W + 1) := ⟨_, rfl⟩
      have hqp : q = p + (W + 1) := by rw [hq, hp]; exact Nat.succ_mul _ _
      have hql : q ≤ xs.length := by rw [hq, hN, Nat.mul_comm (W + 1)]; exact Nat.mul_le_mul_right _ (by omega)
      have hp0 : (y : Int) * ((W : Int) + 1) = (p : Int) := by rw [hp]; push_cast; rfl
      have hq0 : ((y : Int) + 1) * ((W : Int) + 1) = (q : Int) := by rw [hq]; push_cast; rfl
      have hq1 : y < H → q + (W + 1) ≤ xs.length := by
        intro hyH
        rw [hq, ← Nat.succ_mul, hN, Nat.mul_comm (W + 1)]; exact Nat.mul_le_mul_right _ (by omega)
      simp (disch := first | omega | with_unfolding_all rfl) [h', hp0]
      have t1 : ((p : Int) + (x : Int)).toNat = p + x := by omega
      have t2 : ((p : Int) + (x : Int) + 1).toNat = p + x + 1 := by omega
      have t3 : ((q : Int) + (x : Int)).toNat = q + x := by omega
      have hst : st1 W H xs y x = ((decide (x < W) && ap (zz xs (p + x)) (zz xs (p + x + 1))) || (decide (y < H) && ap (zz xs (p + x)) (zz xs (q + x)))) := by rw [hp, hq]; rfl
      have bad : st1 W H xs y x = true → landErr ⟨W, H, nl, xs⟩ = 5 := fun hb => by
        have r1 : row1 W H xs y = true := anyN_t (Nat.zero_le x) (by omega) hb
        have r2 : anyN (row1 W H xs) 0 (H + 1) = true := anyN_t (Nat.zero_le y) (by omega) r1
        simp [landErr, hd, hn, r2]
      by_cases a1 : x < W
      · simp (disch := first | omega | with_unfolding_all rfl) [a1, hp0, zz_get, t1, t2, hap]
        cases a2 : ap (zz xs (p + x)) (zz xs (p + x + 1))
        · simp (disch := first | omega | with_unfolding_all rfl) [a2]
          by_cases a3 : y < H
          · simp (disch := first | omega | with_unfolding_all rfl) [a3, hq0, zz_get, t1, t3, hap]
            cases a4 : ap (zz xs (p + x)) (zz xs (q + x))
            · simp (disch := first | omega | with_unfolding_all rfl) [hst, a1, a2, a3, a4]
              omega
            · simp (disch := first | omega | with_unfolding_all rfl) [bad (by simp [hst, a3, a4])]
          · simp (disch := first | omega | with_unfolding_all rfl) [a3, hst, a1, a2]
            omega
        · simp (disch := first | omega | with_unfolding_all rfl) [bad (by simp [hst, a1, a2])]
      · simp (disch := first | omega | with_unfolding_all rfl) [a1]
        by_cases a3 : y < H
        · simp (disch := first | omega | with_unfolding_all rfl) [a3, hq0, zz_get, t1, t3, hap]
          cases a4 : ap (zz xs (p + x)) (zz xs (q + x))
          · simp (disch := first | omega | with_unfolding_all rfl) [hst, a1, a3, a4]
            omega
          · simp (disch := first | omega | with_unfolding_all rfl) [bad (by simp [hst, a3, a4])]
        · simp (disch := first | omega | with_unfolding_all rfl) [a3, hst, a1]
          omega
    · have r1 : row1 W H xs y = false := anyN_f fun j h1 h2 => hzx j h1 (by omega)
      simp (disch := first | omega | with_unfolding_all rfl) [h', r1]
      omega
  · have r2 : anyN (row1 W H xs) 0 (H + 1) = false := anyN_f fun j h1 h2 => hzy j h1 (by omega)
    simp (disch := first | omega | with_unfolding_all rfl) [h, landErr, hd, hn, r2]
end Go.Proofs.Ytpnhdcjfhlcgoaa
