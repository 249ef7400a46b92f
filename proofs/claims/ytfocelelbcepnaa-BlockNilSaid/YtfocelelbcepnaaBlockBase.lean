/- Blocks: rails, pieces, signals. -/
import Derived.Test.YtfocelelbcepnaaBlockTab
import Derived.Test.YtfocelelbcepnaaPmNineteen
import Derived.Test.YtfocelelbcepnaaPmTwenty
set_option linter.unusedVariables false
set_option linter.unusedSimpArgs false
set_option maxHeartbeats 2000000
set_option maxRecDepth 20000
namespace Go.Proofs.Ytfocelelbcepnaa
open Go.Proofs.Ytfocelelbcepnaa.PM

/-- Rails. -/
structure Rl where
  w : Int
  h : Int
  n1 : Nl
  s : List Int
  n2 : Nl
  d : List Bool
abbrev vR (r : Rl) : PV := .agg [.int .i64 r.w, .int .i64 r.h, lst r.n1 r.s, lst r.n2 r.d]
def ss (r : Rl) (i : Nat) : Int := r.s.getD i 0
def dd (r : Rl) (i : Nat) : Bool := r.d.getD i false
theorem ss_get {r : Rl} {i : Nat} (h : i < r.s.length) : r.s[i] = ss r i := by simp [ss, h]
theorem dd_get {r : Rl} {i : Nat} (h : i < r.d.length) : r.d[i] = dd r i := by simp [dd, h]
def dims (r : Rl) : Bool := decide (4 ≤ r.w) && decide (r.w ≤ 32) && decide (4 ≤ r.h) && decide (r.h ≤ 32) && decide ((r.s.length : Int) = r.w * r.h) && decide ((r.d.length : Int) = r.w * r.h)
def badS (r : Rl) (i : Nat) : Bool := decide (ss r i < 0) || decide (63 < ss r i) || decide (ss r i = 0) && dd r i
def railErr (r : Rl) : Int := if dims r = false then 1 else if anyN (badS r) 0 r.s.length then 1 else 0

theorem railV_ok (r : Rl) (hb : r.s.length ≤ 3000) : R tb 52 [vR r] = some (.int .i64 (railErr r)) := by
  obtain ⟨w, h, n1, s, n2, d⟩ := r
  dsimp only at hb
  refine R_of_G (F := pf52) rfl rfl rfl ?_
  simp (disch := first | omega | with_unfolding_all rfl) [pf52, env0_eq]
  by_cases h1 : w < 4
  · have : dims ⟨w, h, n1, s, n2, d⟩ = false := by simp [dims]; omega
    simp (disch := first | omega | with_unfolding_all rfl) [h1, railErr, this]
  by_cases h2 : 32 < w
  · have : dims ⟨w, h, n1, s, n2, d⟩ = false := by simp [dims]; omega
    simp (disch := first | omega | with_unfolding_all rfl) [h1, h2, railErr, this]
  by_cases h3 : h < 4
  · have : dims ⟨w, h, n1, s, n2, d⟩ = false := by simp [dims]; omega
    simp (disch := first | omega | with_unfolding_all rfl) [h1, h2, h3, railErr, this]
  by_cases h4 : 32 < h
  · have : dims ⟨w, h, n1, s, n2, d⟩ = false := by simp [dims]; omega
    simp (disch := first | omega | with_unfolding_all rfl) [h1, h2, h3, h4, railErr, this]
  have hmul : w * h ≤ 32 * 32 := Int.mul_le_mul (by omega) (by omega) (by omega) (by omega)
  have hmul0 : 0 ≤ w * h := Int.mul_nonneg (by omega) (by omega)
  by_cases h5 : (s.length : Int) = w * h
  case neg =>
    have : dims ⟨w, h, n1, s, n2, d⟩ = false := by simp [dims]; omega
    simp (disch := first | omega | with_unfolding_all rfl) [h1, h2, h3, h4, h5, railErr, this]
  by_cases h6 : (d.length : Int) = w * h
  case neg =>
    have : dims ⟨w, h, n1, s, n2, d⟩ = false := by simp [dims]; omega
    simp (disch := first | omega | with_unfolding_all rfl) [h1, h2, h3, h4, h5, h6, railErr, this]
  have hd : dims ⟨w, h, n1, s, n2, d⟩ = true := by simp [dims]; omega
  simp (disch := first | omega | with_unfolding_all rfl) [h1, h2, h3, h4, h5, h6]
  refine G_scanC [1, 46, 47] 48 (badS ⟨w, h, n1, s, n2, d⟩) s.length 0 (by simp) (Nat.zero_le _) ?_
  rintro i e - hi hz hk g48
  simp at hk
  simp (disch := first | omega | with_unfolding_all rfl) [hk, g48]
  refine G_brd (fun h7 => ?_) (fun h7 => ?_)
  · have hil : i < s.length := by omega
    have hdl : i < d.length := by omega
    have e1 : s[i] = ss ⟨w, h, n1, s, n2, d⟩ i := by simp [ss, hil]
    have e2 : d[i] = dd ⟨w, h, n1, s, n2, d⟩ i := by simp [dd, hdl]
    have bad : badS ⟨w, h, n1, s, n2, d⟩ i = true → railErr ⟨w, h, n1, s, n2, d⟩ = 1 := fun hb => by
      have := anyN_t (n := s.length) (Nat.zero_le i) hil hb
      simp [railErr, hd, this]
    simp (disch := first | omega | with_unfolding_all rfl) [hk, g48, h7, e1, e2]
    by_cases a1 : ss ⟨w, h, n1, s, n2, d⟩ i < 0
    · simp (disch := first | omega | with_unfolding_all rfl) [a1, bad (by simp [badS, a1])]
    by_cases a2 : 64 ≤ ss ⟨w, h, n1, s, n2, d⟩ i
    · simp (disch := first | omega | with_unfolding_all rfl) [a1, a2, bad (by simp [badS]; omega)]
    by_cases a3 : ss ⟨w, h, n1, s, n2, d⟩ i = 0
    · cases a4 : dd ⟨w, h, n1, s, n2, d⟩ i
      · simp (disch := first | omega | with_unfolding_all rfl) [hk, g48, a1, a2, a3, a4, e2]
        simp [badS, a3, a4]; omega
      · simp (disch := first | omega | with_unfolding_all rfl) [hk, g48, a1, a2, a3, a4, e2, bad (by simp [badS, a3, a4])]
    · simp (disch := first | omega | with_unfolding_all rfl) [hk, g48, a1, a2, a3]
      simp [badS, a3]; omega
  · have : anyN (badS ⟨w, h, n1, s, n2, d⟩) 0 s.length = false := anyN_f fun j h1 h2 => hz j h1 (by omega)
    simp (disch := first | omega | with_unfolding_all rfl) [hk, g48, h7, railErr, hd, this]
theorem refRailV_ok (r : Rl) (hb : r.s.length ≤ 3000) : R tb 49 [vR r] = some (.int .i64 (railErr r)) := by
  obtain ⟨w, h, n1, s, n2, d⟩ := r
  dsimp only at hb
  refine R_of_G (F := pf49) rfl rfl rfl ?_
  simp (disch := first | omega | with_unfolding_all rfl) [pf49, env0_eq]
  by_cases h1 : w < 4
  · have : dims ⟨w, h, n1, s, n2, d⟩ = false := by simp [dims]; omega
    simp (disch := first | omega | with_unfolding_all rfl) [h1, railErr, this]
  by_cases h2 : 32 < w
  · have : dims ⟨w, h, n1, s, n2, d⟩ = false := by simp [dims]; omega
    simp (disch := first | omega | with_unfolding_all rfl) [h1, h2, railErr, this]
  by_cases h3 : h < 4
  · have : dims ⟨w, h, n1, s, n2, d⟩ = false := by simp [dims]; omega
    simp (disch := first | omega | with_unfolding_all rfl) [h1, h2, h3, railErr, this]
  by_cases h4 : 32 < h
  · have : dims ⟨w, h, n1, s, n2, d⟩ = false := by simp [dims]; omega
    simp (disch := first | omega | with_unfolding_all rfl) [h1, h2, h3, h4, railErr, this]
  have hmul : w * h ≤ 32 * 32 := Int.mul_le_mul (by omega) (by omega) (by omega) (by omega)
  have hmul0 : 0 ≤ w * h := Int.mul_nonneg (by omega) (by omega)
  by_cases h5 : (s.length : Int) = w * h
  case neg =>
    have : dims ⟨w, h, n1, s, n2, d⟩ = false := by simp [dims]; omega
    simp (disch := first | omega | with_unfolding_all rfl) [h1, h2, h3, h4, h5, railErr, this]
  by_cases h6 : (d.length : Int) = w * h
  case neg =>
    have : dims ⟨w, h, n1, s, n2, d⟩ = false := by simp [dims]; omega
    simp (disch := first | omega | with_unfolding_all rfl) [h1, h2, h3, h4, h5, h6, railErr, this]
  have hd : dims ⟨w, h, n1, s, n2, d⟩ = true := by simp [dims]; omega
  simp (disch := first | omega | with_unfolding_all rfl) [h1, h2, h3, h4, h5, h6]
  refine G_scanC [1] 3 (badS ⟨w, h, n1, s, n2, d⟩) s.length 0 (by simp) (Nat.zero_le _) ?_
  rintro i e - hi hz hk g3
  simp at hk
  simp (disch := first | omega | with_unfolding_all rfl) [hk, g3]
  refine G_brd (fun h7 => ?_) (fun h7 => ?_)
  · have hil : i < s.length := by omega
    have hdl : i < d.length := by omega
    have e1 : s[i] = ss ⟨w, h, n1, s, n2, d⟩ i := by simp [ss, hil]
    have e2 : d[i] = dd ⟨w, h, n1, s, n2, d⟩ i := by simp [dd, hdl]
    have bad : badS ⟨w, h, n1, s, n2, d⟩ i = true → railErr ⟨w, h, n1, s, n2, d⟩ = 1 := fun hb => by
      have := anyN_t (n := s.length) (Nat.zero_le i) hil hb
      simp [railErr, hd, this]
    simp (disch := first | omega | with_unfolding_all rfl) [hk, g3, h7, e1, e2]
    by_cases a1 : ss ⟨w, h, n1, s, n2, d⟩ i < 0
    · simp (disch := first | omega | with_unfolding_all rfl) [a1, e1, e2, bad (by simp [badS, a1])]
    by_cases a2 : 63 < ss ⟨w, h, n1, s, n2, d⟩ i
    · simp (disch := first | omega | with_unfolding_all rfl) [a1, a2, e1, e2, bad (by simp [badS, a2])]
    by_cases a3 : ss ⟨w, h, n1, s, n2, d⟩ i = 0
    · cases a4 : dd ⟨w, h, n1, s, n2, d⟩ i
      · simp (disch := first | omega | with_unfolding_all rfl) [hk, g3, a1, a2, a3, a4, e1, e2]
        simp [badS, a3, a4] <;> omega
      · simp (disch := first | omega | with_unfolding_all rfl) [hk, g3, a1, a2, a3, a4, e1, e2, bad (by simp [badS, a3, a4])]
    · simp (disch := first | omega | with_unfolding_all rfl) [hk, g3, a1, a2, a3, e1, e2]
      simp [badS, a1, a2, a3]
  · have : anyN (badS ⟨w, h, n1, s, n2, d⟩) 0 s.length = false := anyN_f fun j h1 h2 => hz j h1 (by omega)
    simp (disch := first | omega | with_unfolding_all rfl) [hk, g3, h7, railErr, hd, this]

theorem and_one (a : Int) : IntKind.i64.wrap (((BitVec.ofInt IntKind.i64.bits a &&& BitVec.ofInt IntKind.i64.bits 1).toNat : Nat)) = a % 2 := by
  have h : ((BitVec.ofInt IntKind.i64.bits a &&& BitVec.ofInt IntKind.i64.bits 1).toNat : Int) = a % 2 := by
    show ((BitVec.ofInt 64 a &&& 1#64).toNat : Int) = a % 2
    rw [BitVec.toNat_and, BitVec.toNat_ofInt]
    have h2 : (1#64).toNat = 1 := rfl
    rw [h2, Nat.and_one_is_mod]
    omega
  rw [h, IntKind.wrap_i64]
  omega
@[simp] theorem evBin_and1 (a : Int) : evBin .and (.int .i64 a) (.int .i64 1) = some (.int .i64 (a % 2)) := by
  rw [← and_one a]; rfl
/-- A piece's bit. -/
def bitq (a : Int) (p : Nat) : Bool := decide (a.fdiv (2 ^ p) % 2 = 1)
/-- A piece lies. -/
def lie (r : Rl) (t p : Int) : Bool := decide (0 ≤ t) && (decide (t < r.w * r.h) && (decide (0 ≤ p) && (decide (p < 6) && bitq (ss r t.toNat) p.toNat)))
structure Good (r : Rl) : Prop where
  w0 : 4 ≤ r.w
  w1 : r.w ≤ 32
  h0 : 4 ≤ r.h
  h1 : r.h ≤ 32
  ls : (r.s.length : Int) = r.w * r.h
  ld : (r.d.length : Int) = r.w * r.h
  rg : ∀ i, i < r.s.length → 0 ≤ ss r i ∧ ss r i ≤ 63
theorem good_of {r : Rl} (h : railErr r = 0) : Good r := by
  unfold railErr at h
  split at h
  · cases h
  rename_i hd
  split at h
  · cases h
  rename_i hb
  simp [dims] at hd
  have hb' : anyN (badS r) 0 r.s.length = false := by simpa using hb
  refine ⟨by omega, by omega, by omega, by omega, by omega, by omega, fun i hi => ?_⟩
  have := anyN_off hb' (Nat.zero_le i) hi
  simp [badS] at this
  omega
theorem Good.mul {r : Rl} (g : Good r) : 16 ≤ r.w * r.h ∧ r.w * r.h ≤ 1024 :=
  ⟨Int.le_trans (by decide) (Int.mul_le_mul g.w0 g.h0 (by omega) (by have := g.w0; omega)), Int.le_trans (Int.mul_le_mul g.w1 g.h1 (by have := g.h0; omega) (by omega)) (by decide)⟩
theorem lies_ok {r : Rl} (g : Good r) (t p : Int) : R tb 54 [vR r, .int .i64 t, .int .i64 p] = some (.bool (lie r t p)) := by
  obtain ⟨w0, w1, h0, h1, ls, ld, _⟩ := g
  have hm : 16 ≤ r.w * r.h ∧ r.w * r.h ≤ 1024 := Good.mul ⟨w0, w1, h0, h1, ls, ld, by assumption⟩
  obtain ⟨w, h, n1, s, n2, d⟩ := r
  dsimp only at *
  refine R_of_G (F := pf54) rfl rfl rfl ?_
  simp (disch := first | omega | with_unfolding_all rfl) [pf54, env0_eq]
  by_cases a1 : 0 ≤ t
  case neg => simp (disch := first | omega | with_unfolding_all rfl) [a1, lie]
  by_cases a2 : t < w * h
  case neg => simp (disch := first | omega | with_unfolding_all rfl) [a1, a2, lie]
  by_cases a3 : 0 ≤ p
  case neg => simp (disch := first | omega | with_unfolding_all rfl) [a1, a2, a3, lie]
  by_cases a4 : p < 6
  case neg => simp (disch := first | omega | with_unfolding_all rfl) [a1, a2, a3, a4, lie]
  simp (disch := first | omega | with_unfolding_all rfl) [a1, a2, a3, a4]
  obtain ⟨P, rfl⟩ : ∃ P : Nat, p = P := ⟨p.toNat, by omega⟩
  obtain ⟨T, rfl⟩ : ∃ T : Nat, t = T := ⟨t.toNat, by omega⟩
  have hT : T < s.length := by omega
  have hP : ¬ (P : Int) < 0 := by omega
  have hmin : min P IntKind.i64.bits = P := Nat.min_eq_left (by show P ≤ 64; omega)
  have e1 : s[T] = ss ⟨w, h, n1, s, n2, d⟩ T := by simp [ss, hT]
  simp (disch := first | omega | with_unfolding_all rfl) [hP, hmin, e1, and_one]
  simp [lie, bitq, a2, a4]
/-- A piece lies, in the document's words. -/
theorem refLies_ok {r : Rl} (g : Good r) (t p : Int) : R tb 25 [vR r, .int .i64 t, .int .i64 p] = some (.bool (lie r t p)) := by
  obtain ⟨w0, w1, h0, h1, ls, ld, _⟩ := g
  have hm : 16 ≤ r.w * r.h ∧ r.w * r.h ≤ 1024 := Good.mul ⟨w0, w1, h0, h1, ls, ld, by assumption⟩
  obtain ⟨w, h, n1, s, n2, d⟩ := r
  dsimp only at *
  refine R_of_G (F := pf25) rfl rfl rfl ?_
  simp (disch := first | omega | with_unfolding_all rfl) [pf25, env0_eq]
  by_cases a1 : 0 ≤ t
  case neg => simp (disch := first | omega | with_unfolding_all rfl) [a1, lie]
  by_cases a2 : t < w * h
  case neg => simp (disch := first | omega | with_unfolding_all rfl) [a1, a2, ls, lie]
  by_cases a3 : 0 ≤ p
  case neg => simp (disch := first | omega | with_unfolding_all rfl) [a1, a2, a3, ls, lie]
  by_cases a4 : p < 6
  case neg => simp (disch := first | omega | with_unfolding_all rfl) [a1, a2, a3, a4, ls, lie]
  obtain ⟨P, rfl⟩ : ∃ P : Nat, p = P := ⟨p.toNat, by omega⟩
  obtain ⟨T, rfl⟩ : ∃ T : Nat, t = T := ⟨t.toNat, by omega⟩
  have hT : T < s.length := by omega
  have hP : ¬ (P : Int) < 0 := by omega
  have hmin : min P IntKind.i64.bits = P := Nat.min_eq_left (by show P ≤ 64; omega)
  have e1 : s[T] = ss ⟨w, h, n1, s, n2, d⟩ T := by simp [ss, hT]
  simp (disch := first | omega | with_unfolding_all rfl) [a1, a2, a3, a4, ls, hT, hP, hmin, e1, and_one]
  simp [lie, bitq, a2, a4]
/-- The two sides of a piece. -/
def sa (p : Int) : Int := if p = 0 ∨ p = 1 then p else p - 2
def sb (p : Int) : Int := if p = 0 ∨ p = 1 then p + 2 else (p - 1).tmod 4
theorem ends_ok {p : Int} : R tb 85 [.int .i64 p] = some (if 0 ≤ p ∧ p < 6 then .tup [.int .i64 (sa p), .int .i64 (sb p), .int .i64 0] else .tup [.int .i64 0, .int .i64 0, .int .i64 1]) := by
  by_cases h : 0 ≤ p ∧ p < 6
  · have : p = 0 ∨ p = 1 ∨ p = 2 ∨ p = 3 ∨ p = 4 ∨ p = 5 := by omega
    rcases this with rfl | rfl | rfl | rfl | rfl | rfl <;> exact R_of (n := 60) (by kernel_rfl)
  · rw [if_neg h]
    refine R_of_G (F := pf85) rfl rfl rfl ?_
    have h0 : p ≠ 0 := by omega
    have h1 : p ≠ 1 := by omega
    have h2 : p ≠ 2 := by omega
    have h3 : p ≠ 3 := by omega
    have h4 : p ≠ 4 := by omega
    have h5 : p ≠ 5 := by omega
    simp (disch := first | omega | with_unfolding_all rfl) [pf85, env0_eq, h0, h1, h2, h3, h4, h5]
/-- A side is an end of a piece. -/
def has (p s : Int) : Bool := decide (0 ≤ p ∧ p < 6) && (decide (s = sa p) || decide (s = sb p))
theorem end_ok (p s : Int) : R tb 55 [.int .i64 p, .int .i64 s] = some (.bool (has p s)) := by
  refine R_of_G (F := pf55) rfl rfl rfl ?_
  by_cases h : 0 ≤ p ∧ p < 6
  · simp (disch := first | omega | with_unfolding_all rfl) [pf55, env0_eq, ends_ok, h]
    by_cases h2 : s = sa p
    · simp (disch := first | omega | with_unfolding_all rfl) [h2, has, h]
    · simp (disch := first | omega | with_unfolding_all rfl) [h2, has, h]
  · simp (disch := first | omega | with_unfolding_all rfl) [pf55, env0_eq, ends_ok, h, has]
theorem first_ok {p : Int} (h : 0 ≤ p ∧ p < 6) : R tb 76 [.int .i64 p] = some (.int .i64 (if p = 1 ∨ p = 3 then 1 else if p = 4 then 2 else if p = 5 then 3 else 0)) := by
  have : p = 0 ∨ p = 1 ∨ p = 2 ∨ p = 3 ∨ p = 4 ∨ p = 5 := by omega
  rcases this with rfl | rfl | rfl | rfl | rfl | rfl <;> exact R_of (n := 60) (by kernel_rfl)
theorem first_no {p : Int} (h : ¬ (0 ≤ p ∧ p < 6)) : R tb 76 [.int .i64 p] = some (.int .i64 (-1)) := by
  refine R_of_G (F := pf76) rfl rfl rfl ?_
  have h0 : p ≠ 0 := by omega
  have h1 : p ≠ 1 := by omega
  have h2 : p ≠ 2 := by omega
  have h3 : p ≠ 3 := by omega
  have h4 : p ≠ 4 := by omega
  have h5 : p ≠ 5 := by omega
  simp (disch := first | omega | with_unfolding_all rfl) [pf76, env0_eq, h0, h1, h2, h3, h4, h5]
theorem second_ok {p : Int} (h : 0 ≤ p ∧ p < 6) : R tb 82 [.int .i64 p] = some (.int .i64 (if p = 0 ∨ p = 3 then 2 else if p = 1 ∨ p = 4 then 3 else if p = 2 then 1 else 0)) := by
  have : p = 0 ∨ p = 1 ∨ p = 2 ∨ p = 3 ∨ p = 4 ∨ p = 5 := by omega
  rcases this with rfl | rfl | rfl | rfl | rfl | rfl <;> exact R_of (n := 60) (by kernel_rfl)
theorem second_no {p : Int} (h : ¬ (0 ≤ p ∧ p < 6)) : R tb 82 [.int .i64 p] = some (.int .i64 (-1)) := by
  refine R_of_G (F := pf82) rfl rfl rfl ?_
  have h0 : p ≠ 0 := by omega
  have h1 : p ≠ 1 := by omega
  have h2 : p ≠ 2 := by omega
  have h3 : p ≠ 3 := by omega
  have h4 : p ≠ 4 := by omega
  have h5 : p ≠ 5 := by omega
  simp (disch := first | omega | with_unfolding_all rfl) [pf82, env0_eq, h0, h1, h2, h3, h4, h5]
theorem has_ok (p s : Int) : R tb 51 [.int .i64 p, .int .i64 s] = some (.bool (has p s)) := by
  refine R_of_G (F := pf51) rfl rfl rfl ?_
  by_cases hs : 0 ≤ s
  case neg =>
    have : has p s = false := by
      unfold has
      by_cases h : 0 ≤ p ∧ p < 6
      · have : p = 0 ∨ p = 1 ∨ p = 2 ∨ p = 3 ∨ p = 4 ∨ p = 5 := by omega
        rcases this with rfl | rfl | rfl | rfl | rfl | rfl <;> simp [sa, sb] <;> omega
      · simp [h]
    simp (disch := first | omega | with_unfolding_all rfl) [pf51, env0_eq, hs, this]
  by_cases h : 0 ≤ p ∧ p < 6
  · simp (disch := first | omega | with_unfolding_all rfl) [pf51, env0_eq, first_ok h, second_ok h, hs]
    have : p = 0 ∨ p = 1 ∨ p = 2 ∨ p = 3 ∨ p = 4 ∨ p = 5 := by omega
    refine G_grdn (fun h2 => ?_) (fun h2 => ?_)
    · simp (disch := first | omega | with_unfolding_all rfl) [h2, second_ok h]
      unfold has
      rcases this with rfl | rfl | rfl | rfl | rfl | rfl <;> simp [sa, sb] at h2 ⊢ <;> rw [Bool.eq_iff_iff] <;> simp <;> omega
    · simp (disch := first | omega | with_unfolding_all rfl) [h2]
      unfold has
      rcases this with rfl | rfl | rfl | rfl | rfl | rfl <;> simp [sa, sb] at h2 ⊢ <;> omega
  · have h2 : ¬ (-1 : Int) = s := by omega
    simp (disch := first | omega | with_unfolding_all rfl) [pf51, env0_eq, first_no h, second_no h, hs, h2, has, h]
end Go.Proofs.Ytfocelelbcepnaa
