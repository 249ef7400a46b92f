/- Several texts in one: TrainBBase, TrainBSig, TrainBVal. -/
import Derived.Test.YtiaeckidlmoohaaGreatTrainTabC
import Derived.Test.YtiaeckidlmoohaaGreatPmNineteen
import Derived.Test.YtiaeckidlmoohaaGreatPmTwenty
section
set_option linter.unusedVariables false
set_option linter.unusedSimpArgs false
set_option maxHeartbeats 2000000
set_option maxRecDepth 20000
namespace Go.Proofs.YtiaeckidlmoohaaGreat
open Go.Proofs.YtiaeckidlmoohaaGreat.PM
structure Rl where
  w : Int
  h : Int
  n1 : Nl
  s : List Int
  n2 : Nl
  d : List Bool
abbrev vR (r : Rl) : PV := .agg [.int .i64 r.w, .int .i64 r.h, lst r.n1 r.s, lst r.n2 r.d]
def ss (r : Rl) (i : Nat) : Int := r.s.getD i 0
def dd (r : Rl) (i : Nat) : Bool := r.d.getD i false
theorem ss_get {r : Rl} {i : Nat} (h : i < r.s.length) : r.s[i] = ss r i := by simp [ss, h]
def dims (r : Rl) : Bool := decide (4 ≤ r.w) && decide (r.w ≤ 32) && decide (4 ≤ r.h) && decide (r.h ≤ 32) && decide ((r.s.length : Int) = r.w * r.h) && decide ((r.d.length : Int) = r.w * r.h)
def badS (r : Rl) (i : Nat) : Bool := decide (ss r i < 0) || decide (63 < ss r i) || decide (ss r i = 0) && dd r i
def railErr (r : Rl) : Int := if dims r = false then 1 else if anyN (badS r) 0 r.s.length then 1 else 0
theorem railV_ok (r : Rl) (hb : r.s.length ≤ 3000) : R tc 104 [vR r] = some (.int .i64 (railErr r)) := by
  obtain ⟨w, h, n1, s, n2, d⟩ := r
  dsimp only at hb
  refine R_of_G (F := pf104) (tc_nat _ rfl) rfl rfl ?_
  simp (disch := first | omega | with_unfolding_all rfl) [pf104, env0_eq]
  by_cases h1 : w < 4
  · have : dims ⟨w, h, n1, s, n2, d⟩ = false := by simp [dims]; omega
    simp (disch := first | omega | with_unfolding_all rfl) [h1, railErr, this]
  by_cases h2 : 32 < w
  · have : dims ⟨w, h, n1, s, n2, d⟩ = false := by simp [dims]; omega
    simp (disch := first | omega | with_unfolding_all rfl) [h1, h2, railErr, this]
  by_cases h3 : h < 4
  · have : dims ⟨w, h, n1, s, n2, d⟩ = false := by simp [dims]; omega
    simp (disch := first | omega | with_unfolding_all rfl) [h1, h2, h3, railErr, this]
  by_cases h4 : 32 < h
  · have : dims ⟨w, h, n1, s, n2, d⟩ = false := by simp [dims]; omega
    simp (disch := first | omega | with_unfolding_all rfl) [h1, h2, h3, h4, railErr, this]
  have hmul : w * h ≤ 32 * 32 := Int.mul_le_mul (by omega) (by omega) (by omega) (by omega)
  have hmul0 : 0 ≤ w * h := Int.mul_nonneg (by omega) (by omega)
  by_cases h5 : (s.length : Int) = w * h
  case neg =>
    have : dims ⟨w, h, n1, s, n2, d⟩ = false := by simp [dims]; omega
    simp (disch := first | omega | with_unfolding_all rfl) [h1, h2, h3, h4, h5, railErr, this]
  by_cases h6 : (d.length : Int) = w * h
  case neg =>
    have : dims ⟨w, h, n1, s, n2, d⟩ = false := by simp [dims]; omega
    simp (disch := first | omega | with_unfolding_all rfl) [h1, h2, h3, h4, h5, h6, railErr, this]
  have hd : dims ⟨w, h, n1, s, n2, d⟩ = true := by simp [dims]; omega
  simp (disch := first | omega | with_unfolding_all rfl) [h1, h2, h3, h4, h5, h6]
  refine G_scanC [1, 46, 47] 48 (badS ⟨w, h, n1, s, n2, d⟩) s.length 0 (by simp) (Nat.zero_le _) ?_
  rintro i e - hi hz hk g48
  simp at hk
  simp (disch := first | omega | with_unfolding_all rfl) [hk, g48]
  refine G_brd (fun h7 => ?_) (fun h7 => ?_)
  · have hil : i < s.length := by omega
    have hdl : i < d.length := by omega
    have e1 : s[i] = ss ⟨w, h, n1, s, n2, d⟩ i := by simp [ss, hil]
    have e2 : d[i] = dd ⟨w, h, n1, s, n2, d⟩ i := by simp [dd, hdl]
    have bad : badS ⟨w, h, n1, s, n2, d⟩ i = true → railErr ⟨w, h, n1, s, n2, d⟩ = 1 := fun hb => by
      have := anyN_t (n := s.length) (Nat.zero_le i) hil hb
      simp [railErr, hd, this]
    simp (disch := first | omega | with_unfolding_all rfl) [hk, g48, h7, e1, e2]
    by_cases a1 : ss ⟨w, h, n1, s, n2, d⟩ i < 0
    · simp (disch := first | omega | with_unfolding_all rfl) [a1, bad (by simp [badS, a1])]
    by_cases a2 : 64 ≤ ss ⟨w, h, n1, s, n2, d⟩ i
    · simp (disch := first | omega | with_unfolding_all rfl) [a1, a2, bad (by simp [badS]; omega)]
    by_cases a3 : ss ⟨w, h, n1, s, n2, d⟩ i = 0
    · cases a4 : dd ⟨w, h, n1, s, n2, d⟩ i
      · simp (disch := first | omega | with_unfolding_all rfl) [hk, g48, a1, a2, a3, a4, e2]
        simp [badS, a3, a4]; omega
      · simp (disch := first | omega | with_unfolding_all rfl) [hk, g48, a1, a2, a3, a4, e2, bad (by simp [badS, a3, a4])]
    · simp (disch := first | omega | with_unfolding_all rfl) [hk, g48, a1, a2, a3]
      simp [badS, a3]; omega
  · have : anyN (badS ⟨w, h, n1, s, n2, d⟩) 0 s.length = false := anyN_f fun j h1 h2 => hz j h1 (by omega)
    simp (disch := first | omega | with_unfolding_all rfl) [hk, g48, h7, railErr, hd, this]
theorem refRailV_ok (r : Rl) (hb : r.s.length ≤ 3000) : R tc 62 [vR r] = some (.int .i64 (railErr r)) := by
  obtain ⟨w, h, n1, s, n2, d⟩ := r
  dsimp only at hb
  refine R_of_G (F := pf62) (tc_nat _ rfl) rfl rfl ?_
  simp (disch := first | omega | with_unfolding_all rfl) [pf62, env0_eq]
  by_cases h1 : w < 4
  · have : dims ⟨w, h, n1, s, n2, d⟩ = false := by simp [dims]; omega
    simp (disch := first | omega | with_unfolding_all rfl) [h1, railErr, this]
  by_cases h2 : 32 < w
  · have : dims ⟨w, h, n1, s, n2, d⟩ = false := by simp [dims]; omega
    simp (disch := first | omega | with_unfolding_all rfl) [h1, h2, railErr, this]
  by_cases h3 : h < 4
  · have : dims ⟨w, h, n1, s, n2, d⟩ = false := by simp [dims]; omega
    simp (disch := first | omega | with_unfolding_all rfl) [h1, h2, h3, railErr, this]
  by_cases h4 : 32 < h
  · have : dims ⟨w, h, n1, s, n2, d⟩ = false := by simp [dims]; omega
    simp (disch := first | omega | with_unfolding_all rfl) [h1, h2, h3, h4, railErr, this]
  have hmul : w * h ≤ 32 * 32 := Int.mul_le_mul (by omega) (by omega) (by omega) (by omega)
  have hmul0 : 0 ≤ w * h := Int.mul_nonneg (by omega) (by omega)
  by_cases h5 : (s.length : Int) = w * h
  case neg =>
    have : dims ⟨w, h, n1, s, n2, d⟩ = false := by simp [dims]; omega
    simp (disch := first | omega | with_unfolding_all rfl) [h1, h2, h3, h4, h5, railErr, this]
  by_cases h6 : (d.length : Int) = w * h
  case neg =>
    have : dims ⟨w, h, n1, s, n2, d⟩ = false := by simp [dims]; omega
    simp (disch := first | omega | with_unfolding_all rfl) [h1, h2, h3, h4, h5, h6, railErr, this]
  have hd : dims ⟨w, h, n1, s, n2, d⟩ = true := by simp [dims]; omega
  simp (disch := first | omega | with_unfolding_all rfl) [h1, h2, h3, h4, h5, h6]
  refine G_scanC [1] 3 (badS ⟨w, h, n1, s, n2, d⟩) s.length 0 (by simp) (Nat.zero_le _) ?_
  rintro i e - hi hz hk g3
  simp at hk
  simp (disch := first | omega | with_unfolding_all rfl) [hk, g3]
  refine G_brd (fun h7 => ?_) (fun h7 => ?_)
  · have hil : i < s.length := by omega
    have hdl : i < d.length := by omega
    have e1 : s[i] = ss ⟨w, h, n1, s, n2, d⟩ i := by simp [ss, hil]
    have e2 : d[i] = dd ⟨w, h, n1, s, n2, d⟩ i := by simp [dd, hdl]
    have bad : badS ⟨w, h, n1, s, n2, d⟩ i = true → railErr ⟨w, h, n1, s, n2, d⟩ = 1 := fun hb => by
      have := anyN_t (n := s.length) (Nat.zero_le i) hil hb
      simp [railErr, hd, this]
    simp (disch := first | omega | with_unfolding_all rfl) [hk, g3, h7, e1, e2]
    by_cases a1 : ss ⟨w, h, n1, s, n2, d⟩ i < 0
    · simp (disch := first | omega | with_unfolding_all rfl) [a1, e1, e2, bad (by simp [badS, a1])]
    by_cases a2 : 63 < ss ⟨w, h, n1, s, n2, d⟩ i
    · simp (disch := first | omega | with_unfolding_all rfl) [a1, a2, e1, e2, bad (by simp [badS, a2])]
    by_cases a3 : ss ⟨w, h, n1, s, n2, d⟩ i = 0
    · cases a4 : dd ⟨w, h, n1, s, n2, d⟩ i
      · simp (disch := first | omega | with_unfolding_all rfl) [hk, g3, a1, a2, a3, a4, e1, e2]
        simp [badS, a3, a4] <;> omega
      · simp (disch := first | omega | with_unfolding_all rfl) [hk, g3, a1, a2, a3, a4, e1, e2, bad (by simp [badS, a3, a4])]
    · simp (disch := first | omega | with_unfolding_all rfl) [hk, g3, a1, a2, a3, e1, e2]
      simp [badS, a1, a2, a3]
  · have : anyN (badS ⟨w, h, n1, s, n2, d⟩) 0 s.length = false := anyN_f fun j h1 h2 => hz j h1 (by omega)
    simp (disch := first | omega | with_unfolding_all rfl) [hk, g3, h7, railErr, hd, this]
theorem and_one (a : Int) : IntKind.i64.wrap (((BitVec.ofInt IntKind.i64.bits a &&& BitVec.ofInt IntKind.i64.bits 1).toNat : Nat)) = a % 2 := by
  have h : ((BitVec.ofInt IntKind.i64.bits a &&& BitVec.ofInt IntKind.i64.bits 1).toNat : Int) = a % 2 := by
    show ((BitVec.ofInt 64 a &&& 1#64).toNat : Int) = a % 2
    rw [BitVec.toNat_and, BitVec.toNat_ofInt]
    have h2 : (1#64).toNat = 1 := rfl
    rw [h2, Nat.and_one_is_mod]
    omega
  rw [h, IntKind.wrap_i64]
  omega
@[simp] theorem evBin_and1 (a : Int) : evBin .and (.int .i64 a) (.int .i64 1) = some (.int .i64 (a % 2)) := by
  rw [← and_one a]; rfl
def bitq (a : Int) (p : Nat) : Bool := decide (a.fdiv (2 ^ p) % 2 = 1)
def lie (r : Rl) (t p : Int) : Bool := decide (0 ≤ t) && (decide (t < r.w * r.h) && (decide (0 ≤ p) && (decide (p < 6) && bitq (ss r t.toNat) p.toNat)))
structure Good (r : Rl) : Prop where
  w0 : 4 ≤ r.w
  w1 : r.w ≤ 32
  h0 : 4 ≤ r.h
  h1 : r.h ≤ 32
  ls : (r.s.length : Int) = r.w * r.h
  ld : (r.d.length : Int) = r.w * r.h
  rg : ∀ i, i < r.s.length → 0 ≤ ss r i ∧ ss r i ≤ 63
theorem good_of {r : Rl} (h : railErr r = 0) : Good r := by
  unfold railErr at h
  split at h
  · cases h
  rename_i hd
  split at h
  · cases h
  rename_i hb
  simp [dims] at hd
  have hb' : anyN (badS r) 0 r.s.length = false := by simpa using hb
  refine ⟨by omega, by omega, by omega, by omega, by omega, by omega, fun i hi => ?_⟩
  have := anyN_off hb' (Nat.zero_le i) hi
  simp [badS] at this
  omega
theorem Good.mul {r : Rl} (g : Good r) : 16 ≤ r.w * r.h ∧ r.w * r.h ≤ 1024 :=
  ⟨Int.le_trans (by decide) (Int.mul_le_mul g.w0 g.h0 (by omega) (by have := g.w0; omega)), Int.le_trans (Int.mul_le_mul g.w1 g.h1 (by have := g.h0; omega) (by omega)) (by decide)⟩
theorem lies_ok {r : Rl} (g : Good r) (t p : Int) : R tc 106 [vR r, .int .i64 t, .int .i64 p] = some (.bool (lie r t p)) := by
  obtain ⟨w0, w1, h0, h1, ls, ld, _⟩ := g
  have hm : 16 ≤ r.w * r.h ∧ r.w * r.h ≤ 1024 := Good.mul ⟨w0, w1, h0, h1, ls, ld, by assumption⟩
  obtain ⟨w, h, n1, s, n2, d⟩ := r
  dsimp only at *
  refine R_of_G (F := pf106) (tc_nat _ rfl) rfl rfl ?_
  simp (disch := first | omega | with_unfolding_all rfl) [pf106, env0_eq]
  by_cases a1 : 0 ≤ t
  case neg => simp (disch := first | omega | with_unfolding_all rfl) [a1, lie]
  by_cases a2 : t < w * h
  case neg => simp (disch := first | omega | with_unfolding_all rfl) [a1, a2, lie]
  by_cases a3 : 0 ≤ p
  case neg => simp (disch := first | omega | with_unfolding_all rfl) [a1, a2, a3, lie]
  by_cases a4 : p < 6
  case neg => simp (disch := first | omega | with_unfolding_all rfl) [a1, a2, a3, a4, lie]
  simp (disch := first | omega | with_unfolding_all rfl) [a1, a2, a3, a4]
  obtain ⟨P, rfl⟩ : ∃ P : Nat, p = P := ⟨p.toNat, by omega⟩
  obtain ⟨T, rfl⟩ : ∃ T : Nat, t = T := ⟨t.toNat, by omega⟩
  have hT : T < s.length := by omega
  have hP : ¬ (P : Int) < 0 := by omega
  have hmin : min P IntKind.i64.bits = P := Nat.min_eq_left (by show P ≤ 64; omega)
  have e1 : s[T] = ss ⟨w, h, n1, s, n2, d⟩ T := by simp [ss, hT]
  simp (disch := first | omega | with_unfolding_all rfl) [hP, hmin, e1, and_one]
  simp [lie, bitq, a2, a4]
theorem refLies_ok {r : Rl} (g : Good r) (t p : Int) : R tc 112 [vR r, .int .i64 t, .int .i64 p] = some (.bool (lie r t p)) := by
  obtain ⟨w0, w1, h0, h1, ls, ld, _⟩ := g
  have hm : 16 ≤ r.w * r.h ∧ r.w * r.h ≤ 1024 := Good.mul ⟨w0, w1, h0, h1, ls, ld, by assumption⟩
  obtain ⟨w, h, n1, s, n2, d⟩ := r
  dsimp only at *
  refine R_of_G (F := pf112) (tc_nat _ rfl) rfl rfl ?_
  simp (disch := first | omega | with_unfolding_all rfl) [pf112, env0_eq]
  by_cases a1 : 0 ≤ t
  case neg => simp (disch := first | omega | with_unfolding_all rfl) [a1, lie]
  by_cases a2 : t < w * h
  case neg => simp (disch := first | omega | with_unfolding_all rfl) [a1, a2, ls, lie]
  by_cases a3 : 0 ≤ p
  case neg => simp (disch := first | omega | with_unfolding_all rfl) [a1, a2, a3, ls, lie]
  by_cases a4 : p < 6
  case neg => simp (disch := first | omega | with_unfolding_all rfl) [a1, a2, a3, a4, ls, lie]
  obtain ⟨P, rfl⟩ : ∃ P : Nat, p = P := ⟨p.toNat, by omega⟩
  obtain ⟨T, rfl⟩ : ∃ T : Nat, t = T := ⟨t.toNat, by omega⟩
  have hT : T < s.length := by omega
  have hP : ¬ (P : Int) < 0 := by omega
  have hmin : min P IntKind.i64.bits = P := Nat.min_eq_left (by show P ≤ 64; omega)
  have e1 : s[T] = ss ⟨w, h, n1, s, n2, d⟩ T := by simp [ss, hT]
  simp (disch := first | omega | with_unfolding_all rfl) [a1, a2, a3, a4, ls, hT, hP, hmin, e1, and_one]
  simp [lie, bitq, a2, a4]
def sa (p : Int) : Int := if p = 0 ∨ p = 1 then p else p - 2
def sb (p : Int) : Int := if p = 0 ∨ p = 1 then p + 2 else (p - 1).tmod 4
theorem ends_ok {p : Int} : R tc 149 [.int .i64 p] = some (if 0 ≤ p ∧ p < 6 then .tup [.int .i64 (sa p), .int .i64 (sb p), .int .i64 0] else .tup [.int .i64 0, .int .i64 0, .int .i64 1]) := by
  by_cases h : 0 ≤ p ∧ p < 6
  · have : p = 0 ∨ p = 1 ∨ p = 2 ∨ p = 3 ∨ p = 4 ∨ p = 5 := by omega
    rcases this with rfl | rfl | rfl | rfl | rfl | rfl <;> exact R_of (n := 60) (by kernel_rfl)
  · rw [if_neg h]
    refine R_of_G (F := pf149) (tc_nat _ rfl) rfl rfl ?_
    have h0 : p ≠ 0 := by omega
    have h1 : p ≠ 1 := by omega
    have h2 : p ≠ 2 := by omega
    have h3 : p ≠ 3 := by omega
    have h4 : p ≠ 4 := by omega
    have h5 : p ≠ 5 := by omega
    simp (disch := first | omega | with_unfolding_all rfl) [pf149, env0_eq, h0, h1, h2, h3, h4, h5]
def has (p s : Int) : Bool := decide (0 ≤ p ∧ p < 6) && (decide (s = sa p) || decide (s = sb p))
theorem end_ok (p s : Int) : R tc 107 [.int .i64 p, .int .i64 s] = some (.bool (has p s)) := by
  refine R_of_G (F := pf107) (tc_nat _ rfl) rfl rfl ?_
  by_cases h : 0 ≤ p ∧ p < 6
  · simp (disch := first | omega | with_unfolding_all rfl) [pf107, env0_eq, ends_ok, h]
    by_cases h2 : s = sa p
    · simp (disch := first | omega | with_unfolding_all rfl) [h2, has, h]
    · simp (disch := first | omega | with_unfolding_all rfl) [h2, has, h]
  · simp (disch := first | omega | with_unfolding_all rfl) [pf107, env0_eq, ends_ok, h, has]
theorem first_ok {p : Int} (h : 0 ≤ p ∧ p < 6) : R tc 151 [.int .i64 p] = some (.int .i64 (if p = 1 ∨ p = 3 then 1 else if p = 4 then 2 else if p = 5 then 3 else 0)) := by
  have : p = 0 ∨ p = 1 ∨ p = 2 ∨ p = 3 ∨ p = 4 ∨ p = 5 := by omega
  rcases this with rfl | rfl | rfl | rfl | rfl | rfl <;> exact R_of (n := 60) (by kernel_rfl)
theorem first_no {p : Int} (h : ¬ (0 ≤ p ∧ p < 6)) : R tc 151 [.int .i64 p] = some (.int .i64 (-1)) := by
  refine R_of_G (F := pf151) (tc_nat _ rfl) rfl rfl ?_
  have h0 : p ≠ 0 := by omega
  have h1 : p ≠ 1 := by omega
  have h2 : p ≠ 2 := by omega
  have h3 : p ≠ 3 := by omega
  have h4 : p ≠ 4 := by omega
  have h5 : p ≠ 5 := by omega
  simp (disch := first | omega | with_unfolding_all rfl) [pf151, env0_eq, h0, h1, h2, h3, h4, h5]
theorem second_ok {p : Int} (h : 0 ≤ p ∧ p < 6) : R tc 152 [.int .i64 p] = some (.int .i64 (if p = 0 ∨ p = 3 then 2 else if p = 1 ∨ p = 4 then 3 else if p = 2 then 1 else 0)) := by
  have : p = 0 ∨ p = 1 ∨ p = 2 ∨ p = 3 ∨ p = 4 ∨ p = 5 := by omega
  rcases this with rfl | rfl | rfl | rfl | rfl | rfl <;> exact R_of (n := 60) (by kernel_rfl)
theorem second_no {p : Int} (h : ¬ (0 ≤ p ∧ p < 6)) : R tc 152 [.int .i64 p] = some (.int .i64 (-1)) := by
  refine R_of_G (F := pf152) (tc_nat _ rfl) rfl rfl ?_
  have h0 : p ≠ 0 := by omega
  have h1 : p ≠ 1 := by omega
  have h2 : p ≠ 2 := by omega
  have h3 : p ≠ 3 := by omega
  have h4 : p ≠ 4 := by omega
  have h5 : p ≠ 5 := by omega
  simp (disch := first | omega | with_unfolding_all rfl) [pf152, env0_eq, h0, h1, h2, h3, h4, h5]
theorem has_ok (p s : Int) : R tc 113 [.int .i64 p, .int .i64 s] = some (.bool (has p s)) := by
  refine R_of_G (F := pf113) (tc_nat _ rfl) rfl rfl ?_
  by_cases hs : 0 ≤ s
  case neg =>
    have : has p s = false := by
      unfold has
      by_cases h : 0 ≤ p ∧ p < 6
      · have : p = 0 ∨ p = 1 ∨ p = 2 ∨ p = 3 ∨ p = 4 ∨ p = 5 := by omega
        rcases this with rfl | rfl | rfl | rfl | rfl | rfl <;> simp [sa, sb] <;> omega
      · simp [h]
    simp (disch := first | omega | with_unfolding_all rfl) [pf113, env0_eq, hs, this]
  by_cases h : 0 ≤ p ∧ p < 6
  · simp (disch := first | omega | with_unfolding_all rfl) [pf113, env0_eq, first_ok h, second_ok h, hs]
    have : p = 0 ∨ p = 1 ∨ p = 2 ∨ p = 3 ∨ p = 4 ∨ p = 5 := by omega
    refine G_grdn (fun h2 => ?_) (fun h2 => ?_)
    · simp (disch := first | omega | with_unfolding_all rfl) [h2, second_ok h]
      unfold has
      rcases this with rfl | rfl | rfl | rfl | rfl | rfl <;> simp [sa, sb] at h2 ⊢ <;> rw [Bool.eq_iff_iff] <;> simp <;> omega
    · simp (disch := first | omega | with_unfolding_all rfl) [h2]
      unfold has
      rcases this with rfl | rfl | rfl | rfl | rfl | rfl <;> simp [sa, sb] at h2 ⊢ <;> omega
  · have h2 : ¬ (-1 : Int) = s := by omega
    simp (disch := first | omega | with_unfolding_all rfl) [pf113, env0_eq, first_no h, second_no h, hs, h2, has, h]
end Go.Proofs.YtiaeckidlmoohaaGreat
end
section
set_option linter.unusedVariables false
set_option linter.unusedSimpArgs false
set_option maxHeartbeats 2000000
set_option maxRecDepth 20000
namespace Go.Proofs.YtiaeckidlmoohaaGreat
open Go.Proofs.YtiaeckidlmoohaaGreat.PM
structure Sg where
  t : Int
  p : Int
  o : Int
  k : Int
instance : Enc Sg where
  sz := 4
  enc l := [.int .i64 l.t, .int .i64 l.p, .int .i64 l.o, .int .i64 l.k]
  dec | [.int .i64 a, .int .i64 b, .int .i64 c, .int .i64 d] => some ⟨a, b, c, d⟩ | _ => none
  cln _ := true
  pos := by decide
  len _ := rfl
  one _ := rfl
  pur _ := rfl
  hcln _ := rfl
  dec_enc _ := rfl
  enc_dec l x h := by
    split at h
    · simp only [Option.some.injEq] at h; subst h; rfl
    · cases h
instance : Flat Sg := ⟨fun _ _ _ _ => rfl⟩
@[simp] theorem sz_sg : Enc.sz Sg = 4 := rfl
@[simp] theorem enc_sg (l : Sg) : Enc.enc l = [.int .i64 l.t, .int .i64 l.p, .int .i64 l.o, .int .i64 l.k] := rfl
@[simp] theorem cln_sg (l : Sg) : Enc.cln l = true := rfl
@[simp] theorem dec_sg (a b c d : Int) : (Enc.dec [PV.int .i64 a, .int .i64 b, .int .i64 c, .int .i64 d] : Option Sg) = some ⟨a, b, c, d⟩ := rfl
abbrev vS (l : Sg) : PV := .agg [.int .i64 l.t, .int .i64 l.p, .int .i64 l.o, .int .i64 l.k]
theorem isNaN_ok (x : Int) : R tc 150 [.int .i64 x] = some (.bool false) := by
  refine R_of_G (F := pf150) (tc_nat _ rfl) rfl rfl ?_
  simp (disch := omega) [pf150, env0_eq]
theorem cmpI_ok (x y : Int) : R tc 108 [.int .i64 x, .int .i64 y] = some (.int .i64 (cmp x y)) := by
  refine R_of_G (F := pf108) (tc_nat _ rfl) rfl rfl ?_
  simp (disch := omega) [pf108, env0_eq, isNaN_ok]
  refine G_brd (fun h => ?_) (fun h => ?_)
  · simp [h, cmp]
  · simp [h, cmp]
    refine G_brd (fun h' => ?_) (fun h' => ?_)
    · simp [h', cmp]
    · simp [h', cmp]
theorem or_ok (nl : Nl) (xs : List Int) (hx : xs.length < 1000) : R tc 55 [lst nl xs] = some (.int .i64 ((xs.find? (· ≠ 0)).getD 0)) := by
  refine R_of_G (F := pf55) (tc_nat _ rfl) rfl rfl ?_
  simp (disch := omega) [pf55, env0_eq]
  refine G_loop (fun i e h => i ≤ xs.length ∧ (∀ j, j < i → xs[j]? = some 0) ∧ h = [] ∧ get e 3 = .int .i64 0 ∧ get e 6 = lst nl xs ∧ get e 7 = .int .i64 xs.length ∧ get e 8 = .int .i64 (i : Int)) (fun i => xs.length - i) (a₀ := 0) ?_ ?_
  · simp
  rintro i e h ⟨hi, hz, rfl, h3, h6, h7, h8⟩
  simp (disch := omega) [h3, h6, h7, h8]
  refine G_brd (fun h => ?_) (fun h => ?_)
  · simp (disch := omega) [h]
    refine G_brd (fun h' => ?_) (fun h' => ?_)
    · simp (disch := omega) [h']
      refine ⟨i + 1, by omega, by omega, fun j hj => ?_, by omega⟩
      rcases Nat.lt_succ_iff_lt_or_eq.1 hj with h1 | rfl
      · exact hz j h1
      · simp [h, h']
    · simp (disch := omega) [h']
      have : xs.find? (fun x => !decide (x = 0)) = some xs[i] := by
        rw [List.find?_eq_some_iff_getElem]
        refine ⟨by simpa using h', i, h, rfl, fun j hj => ?_⟩
        have := hz j hj
        rw [List.getElem?_eq_getElem (by omega)] at this
        simpa using this
      simp [this]
  · simp (disch := omega) [h]
    have : xs.find? (fun x => !decide (x = 0)) = none := by
      rw [List.find?_eq_none]
      intro x hx
      obtain ⟨j, hj, rfl⟩ := List.getElem_of_mem hx
      have := hz j (by omega)
      rw [List.getElem?_eq_getElem (by omega)] at this
      simpa using this
    simp [this]
theorem or3_ok (nl : Nl) (a b c : Int) : R tc 55 [lst nl [a, b, c]] = some (.int .i64 (if a = 0 then (if b = 0 then c else b) else a)) := by
  rw [or_ok nl [a, b, c] (by simp)]
  by_cases h : a = 0 <;> by_cases h' : b = 0 <;> by_cases h2 : c = 0 <;> simp [h, h', h2]
def cmpS (a b : Sg) : Int := if cmp a.t b.t = 0 then (if cmp a.p b.p = 0 then cmp a.o b.o else cmp a.p b.p) else cmp a.t b.t
theorem compare_ok (a b : Sg) : R tc 105 [vS a, vS b] = some (.int .i64 (cmpS a b)) := by
  refine R_of_G (F := pf105) (tc_nat _ rfl) rfl rfl ?_
  simp (disch := omega) [pf105, env0_eq, vS, cmpI_ok, or3_ok, cmpS]
def ltS (a b : Sg) : Prop := a.t < b.t ∨ (a.t = b.t ∧ (a.p < b.p ∨ (a.p = b.p ∧ a.o < b.o)))
def eqS (a b : Sg) : Prop := a.t = b.t ∧ a.p = b.p ∧ a.o = b.o
instance (a b : Sg) : Decidable (ltS a b) := by unfold ltS; infer_instance
instance (a b : Sg) : Decidable (eqS a b) := by unfold eqS; infer_instance
theorem ltS_trans {a b c : Sg} (h1 : ltS a b) (h2 : ltS b c) : ltS a c := by unfold ltS at *; omega
theorem cmpS_lt (a b : Sg) : cmpS a b < 0 ↔ ltS a b := by
  unfold ltS
  simp only [cmpS, cmp]
  repeat' split
  all_goals omega
theorem cmpS_eq (a b : Sg) : cmpS a b = 0 ↔ eqS a b := by
  unfold eqS
  simp only [cmpS, cmp]
  repeat' split
  all_goals omega
theorem less_ok (a b : Sg) : R tc 111 [vS a, vS b] = some (.bool (decide (ltS a b))) := by
  refine R_of_G (F := pf111) (tc_nat _ rfl) rfl rfl ?_
  simp (disch := omega) [pf111, env0_eq, vS]
  by_cases h1 : a.t = b.t
  · simp [h1, ltS]
    by_cases h2 : a.p = b.p
    · simp [h2]
    · simp [h2]
  · simp [h1, ltS]
theorem wrapu_in {a : Int} (h1 : 0 ≤ a) (h2 : a ≤ 9223372036854775807) : IntKind.u64.wrap a = a := by
  simp only [IntKind.wrap, IntKind.bits, IntKind.signed]
  simp
  omega
def posS (l : Sg) (ls : List Sg) : Nat := ls.findIdx fun x => !decide (ltS x l)
def isAt (l : Sg) (ls : List Sg) : Bool := match ls[posS l ls]? with | some x => decide (eqS x l) | none => false
theorem posS_le (l : Sg) (ls : List Sg) : posS l ls ≤ ls.length := List.findIdx_le_length
theorem posS_lt {l : Sg} {ls : List Sg} {j : Nat} (h : j < ls.length) (hj : j < posS l ls) : ltS ls[j] l := by
  have := List.not_of_lt_findIdx hj
  simpa only [Bool.not_eq_false, Bool.not_eq_true', Bool.not_eq_false', decide_eq_true_eq] using this
theorem posS_ge {l : Sg} {ls : List Sg} (hs : ls.Pairwise ltS) {j : Nat} (h : j < ls.length) (hj : posS l ls ≤ j) : ¬ ltS ls[j] l := by
  rw [List.pairwise_iff_getElem] at hs
  have h3 : posS l ls < ls.length := by omega
  have h4 := List.findIdx_getElem (w := h3)
  have h5 : ¬ ltS ls[posS l ls] l := by
    simp only [Bool.not_eq_true', decide_eq_false_iff_not] at h4
    exact h4
  intro h6
  by_cases e : j = posS l ls
  · subst e
    exact h5 h6
  · exact h5 (ltS_trans (hs _ j h3 h (by omega)) h6)
theorem search_ok {nl : Nl} {ls : List Sg} {l : Sg} (hl : ls.length ≤ 10000) (hs : ls.Pairwise ltS) :
    R tc 212 [lst nl ls, vS l, .clo (.func 105) [] []] = some (.tup [.int .i64 (posS l ls), .bool (isAt l ls)]) := by
  obtain ⟨p, hpd⟩ : ∃ p, p = posS l ls := ⟨_, rfl⟩
  have hp : p ≤ ls.length := by rw [hpd]; exact posS_le _ _
  have h1 : ∀ j (h : j < ls.length), j < p → ltS ls[j] l := fun j h hj => posS_lt h (by rw [← hpd]; exact hj)
  have h2 : ∀ j (h : j < ls.length), p ≤ j → ¬ ltS ls[j] l := fun j h hj => posS_ge hs h (by rw [← hpd]; exact hj)
  have hAt : isAt l ls = (match ls[p]? with | some x => decide (eqS x l) | none => false) := by rw [hpd]; rfl
  rw [← hpd]
  refine R_of_G (F := pf212) (tc_nat _ rfl) rfl rfl ?_
  simp (disch := first | omega | with_unfolding_all rfl) [pf212, env0_eq]
  refine G_loopK [0, 2, 4, 8] (fun (a : Nat × Nat) e h => a.1 ≤ p ∧ p ≤ a.2 ∧ a.2 ≤ ls.length ∧ get e 9 = .int .i64 (a.1 : Int) ∧ get e 10 = .int .i64 (a.2 : Int) ∧ h = []) (fun a => a.2 - a.1) (a₀ := (0, ls.length)) ?_ ?_
  · simp; omega
  rintro ⟨i, j⟩ e h hk ⟨hi, hj, hjl, g9, g10, rfl⟩
  simp at hk
  dsimp only at hi hj hjl
  simp (disch := first | omega | with_unfolding_all rfl) [hk, g9, g10]
  refine G_brd (fun h => ?_) (fun h => ?_)
  · obtain ⟨m, hmD⟩ : ∃ m, m = (i + j) / 2 := ⟨_, rfl⟩
    have hmi : i ≤ m ∧ m < j := by omega
    have hm : IntKind.i64.wrap ((IntKind.u64.wrap ((i : Int) + (j : Int))).fdiv (2 ^ min 1 IntKind.u64.bits)) = (m : Int) := by
      rw [wrapu_in (a := (i : Int) + (j : Int)) (by omega) (by omega), show ((2 : Int) ^ min 1 IntKind.u64.bits) = 2 from rfl, Int.fdiv_eq_ediv_of_nonneg _ (by omega), IntKind.wrap_i64]
      omega
    have hcl := compare_ok ls[m] l
    obtain ⟨c, hc⟩ : ∃ c, c = cmpS ls[m] l := ⟨_, rfl⟩
    rw [← hc] at hcl
    have hclt : c < 0 ↔ ltS ls[m] l := by rw [hc]; exact cmpS_lt _ _
    simp only [vS] at hcl
    simp (disch := first | omega | with_unfolding_all rfl) [hk, g9, g10, hm, h, hcl]
    refine G_brd (fun h3 => ?_) (fun h3 => ?_)
    · have h4 := hclt.1 h3
      have h5 : m < p := by
        apply Nat.lt_of_not_le
        intro q
        exact h2 m (by omega) q h4
      simp (disch := first | omega | with_unfolding_all rfl) [hk, g9, g10]
      exact ⟨m + 1, j, by omega, by omega, by omega, by omega, by omega, by omega⟩
    · have h4 : ¬ ltS ls[m] l := fun q => h3 (hclt.2 q)
      have h5 : p ≤ m := by
        apply Nat.le_of_not_lt
        intro q
        exact h4 (h1 m (by omega) q)
      simp (disch := first | omega | with_unfolding_all rfl) [hk, g9, g10]
      exact ⟨i, m, by omega, by omega, by omega, by omega, by omega, by omega⟩
  · have hip : i = p := by omega
    subst hip
    rw [hAt]
    clear hpd hAt
    simp (disch := first | omega | with_unfolding_all rfl) [hk, g9, g10, h]
    refine G_grdd (fun h3 => ?_) (fun h3 => ?_)
    · have hcl := compare_ok ls[i] l
      have hce := cmpS_eq ls[i] l
      obtain ⟨c, hc⟩ : ∃ c, c = cmpS ls[i] l := ⟨_, rfl⟩
      rw [← hc] at hcl hce
      simp only [vS] at hcl
      have hf : decide (eqS ls[i] l) = decide (c = 0) := by simp [hce]
      simp (disch := first | omega | with_unfolding_all rfl) [hk, g9, g10, h3, hcl, hf]
    · simp (disch := first | omega | with_unfolding_all rfl) [hk, g9, g10, h3]
theorem at_ok {nl : Nl} {ls : List Sg} {l : Sg} (hl : ls.length ≤ 10000) (hs : ls.Pairwise ltS) : R tc 210 [lst nl ls, vS l] = some (.tup [.int .i64 (posS l ls), .bool (isAt l ls)]) := by
  refine R_of_G (F := pf210) (tc_nat _ rfl) rfl rfl ?_
  have := search_ok (nl := nl) (l := l) hl hs
  simp only [vS] at this
  simp (disch := first | omega | with_unfolding_all rfl) [pf210, env0_eq, this]
theorem isAt_iff {l : Sg} {ls : List Sg} (hs : ls.Pairwise ltS) : isAt l ls = true ↔ ∃ x ∈ ls, eqS x l := by
  unfold isAt
  constructor
  · intro h
    split at h
    · rename_i x hx
      exact ⟨x, List.mem_of_getElem? hx, by simpa using h⟩
    · cases h
  · rintro ⟨x, hx, he⟩
    obtain ⟨j, hj, rfl⟩ := List.getElem_of_mem hx
    have h1 : posS l ls = j := by
      rcases Nat.lt_trichotomy (posS l ls) j with h | h | h
      · exfalso
        have h2 := posS_ge hs (l := l) (j := posS l ls) (by omega) (Nat.le_refl _)
        rw [List.pairwise_iff_getElem] at hs
        have := hs (posS l ls) j (by omega) hj h
        unfold ltS eqS at *
        omega
      · exact h
      · exfalso
        have := posS_lt hj h
        unfold ltS eqS at *
        omega
    rw [h1, List.getElem?_eq_getElem hj]
    simpa using he
end Go.Proofs.YtiaeckidlmoohaaGreat
end
section
set_option linter.unusedVariables false
set_option linter.unusedSimpArgs false
set_option maxHeartbeats 4000000
set_option maxRecDepth 20000
namespace Go.Proofs.YtiaeckidlmoohaaGreat
open Go.Proofs.YtiaeckidlmoohaaGreat.PM
def badK (ls : List Sg) (i : Nat) : Bool := match ls[i]? with
  | none => false
  | some l => decide (l.k < 0) || (decide (5 < l.k) || (decide (0 < i) && !(match ls[i - 1]? with | some p => decide (ltS p l) | none => true)))
def badP (r : Rl) (ls : List Sg) (i : Nat) : Bool := match ls[i]? with
  | none => false
  | some l => !lie r l.t l.p || !has l.p l.o
def valErr (r : Rl) (ls : List Sg) : Int :=
  if railErr r = 0 then (if anyN (badK ls) 0 ls.length = true ∨ 300 < ls.length then 1 else if anyN (badP r ls) 0 ls.length then 2 else 0) else railErr r
theorem railErr_cases (r : Rl) : railErr r = 0 ∨ railErr r = 1 := by
  unfold railErr; split
  · exact .inr rfl
  · split
    · exact .inr rfl
    · exact .inl rfl
theorem validate_ok (r : Rl) (nl : Nl) (ls : List Sg) (hb : r.s.length ≤ 3000) (hl : ls.length ≤ 10000) : R tc 54 [vR r, lst nl ls] = some (.int .i64 (valErr r ls)) := by
  have hrv := railV_ok r hb
  refine R_of_G (F := pf54) (tc_nat _ rfl) rfl rfl ?_
  simp (disch := first | omega | with_unfolding_all rfl) [pf54, env0_eq, hrv]
  by_cases h0 : railErr r = 0
  case neg => simp (disch := first | omega | with_unfolding_all rfl) [h0, valErr]
  simp (disch := first | omega | with_unfolding_all rfl) [h0]
  have g := good_of h0
  obtain ⟨p0, hp0⟩ : ∃ p0, p0 = PV.pptr (!r.n1 != Nl.bor || !r.n2 != Nl.bor) [.int .i64 r.w, .int .i64 r.h, lst r.n1 r.s, lst r.n2 r.d] 0 := ⟨_, rfl⟩
  refine G_scanC [1, 2, 15, 16] 17 (badK ls) ls.length 0 (by simp) (Nat.zero_le _) ?_
  rintro i e - hi hz hk g17
  simp at hk
  simp (disch := first | omega | with_unfolding_all rfl) [hk, g17]
  refine G_brd (fun h7 => ?_) (fun h7 => ?_)
  · have hil : i < ls.length := by omega
    obtain ⟨x, hx⟩ : ∃ x, x = ls[i] := ⟨_, rfl⟩
    have bad : badK ls i = true → valErr r ls = 1 := fun hb => by
      have := anyN_t (n := ls.length) (Nat.zero_le i) hil hb
      simp [valErr, h0, this]
    have bk1 : badK ls i = (decide (x.k < 0) || (decide (5 < x.k) || (decide (0 < i) && !(match ls[i - 1]? with | some p => decide (ltS p x) | none => true)))) := by
      simp only [badK, List.getElem?_eq_getElem hil, ← hx]
    simp (disch := first | omega | with_unfolding_all rfl) [hk, g17, h7, ← hx]
    by_cases a1 : x.k < 0
    · simp (disch := first | omega | with_unfolding_all rfl) [a1, bad (by simp [bk1, a1])]
    by_cases a2 : 6 ≤ x.k
    · simp (disch := first | omega | with_unfolding_all rfl) [a1, a2, bad (by simp [bk1]; omega)]
    by_cases a3 : 0 < i
    · have him : i - 1 < ls.length := by omega
      have hci : ((i : Int) - 1) = ((i - 1 : Nat) : Int) := by omega
      have hci2 : (0 : Int) < (i : Int) := by omega
      have hcm := compare_ok ls[i - 1] x
      simp only [vS] at hcm
      have hcl := cmpS_lt ls[i - 1] x
      simp (disch := first | omega | with_unfolding_all rfl) [hk, g17, a1, a2, a3, hci, hcm, ← hx]
      by_cases a4 : cmpS ls[i - 1] x < 0
      · have a5 : ¬ 0 ≤ cmpS ls[i - 1] x := by omega
        simp (disch := first | omega | with_unfolding_all rfl) [hk, g17, a5, bk1, a1, him, hcl.1 a4]
        omega
      · have a5 : 0 ≤ cmpS ls[i - 1] x := by omega
        have a6 : ¬ ltS ls[i - 1] x := fun q => a4 (hcl.2 q)
        simp (disch := first | omega | with_unfolding_all rfl) [hk, g17, a5, bad (by rw [bk1, List.getElem?_eq_getElem him]; simp only [a6, a3]; simp)]
    · obtain rfl : i = 0 := by omega
      simp (disch := first | omega | with_unfolding_all rfl) [hk, g17, a1, a2, bk1]
      omega
  · have hb1 : anyN (badK ls) 0 ls.length = false := anyN_f fun j h1 h2 => hz j h1 (by omega)
    simp (disch := first | omega | with_unfolding_all rfl) [hk, g17, h7]
    refine G_brd (fun h8 => ?_) (fun h8 => ?_)
    · have : 300 < ls.length := by omega
      simp (disch := first | omega | with_unfolding_all rfl) [valErr, h0, this]
    simp (disch := first | omega | with_unfolding_all rfl) [hk, h8]
    refine G_scanC [2, 48, 49] 50 (badP r ls) ls.length 0 (by simp) (Nat.zero_le _) ?_
    rintro i e - hi hz hk g50
    simp at hk
    simp (disch := first | omega | with_unfolding_all rfl) [hk, g50]
    refine G_brd (fun h7 => ?_) (fun h7 => ?_)
    · have hil : i < ls.length := by omega
      obtain ⟨x, hx⟩ : ∃ x, x = ls[i] := ⟨_, rfl⟩
      have hbl : ¬ 300 < ls.length := by omega
      have bad : badP r ls i = true → valErr r ls = 2 := fun hb => by
        have := anyN_t (n := ls.length) (Nat.zero_le i) hil hb
        simp [valErr, h0, hb1, hbl, this]
      have bp1 : badP r ls i = (!lie r x.t x.p || !has x.p x.o) := by simp only [badP, List.getElem?_eq_getElem hil, ← hx]
      have hlie := lies_ok g x.t x.p
      simp (disch := first | omega | with_unfolding_all rfl) [hk, g50, h7, ← hx, hlie]
      cases a1 : lie r x.t x.p
      · simp (disch := first | omega | with_unfolding_all rfl) [a1, bad (by simp [bp1, a1])]
      cases a2 : has x.p x.o
      · simp (disch := first | omega | with_unfolding_all rfl) [a1, a2, end_ok, bad (by simp [bp1, a2])]
      · simp (disch := first | omega | with_unfolding_all rfl) [hk, g50, a1, a2, end_ok, bp1]
    · have hb2 : anyN (badP r ls) 0 ls.length = false := anyN_f fun j h1 h2 => hz j h1 (by omega)
      have hbl : ¬ 300 < ls.length := by omega
      simp (disch := first | omega | with_unfolding_all rfl) [hk, g50, h7, valErr, h0, hb1, hb2, hbl]
theorem refValidate_ok (r : Rl) (nl : Nl) (ls : List Sg) (hb : r.s.length ≤ 3000) (hl : ls.length ≤ 10000) : R tc 63 [vR r, lst nl ls] = some (.int .i64 (valErr r ls)) := by
  have hrv := refRailV_ok r hb
  refine R_of_G (F := pf63) (tc_nat _ rfl) rfl rfl ?_
  simp (disch := first | omega | with_unfolding_all rfl) [pf63, env0_eq, hrv]
  by_cases h0 : railErr r = 0
  case neg => simp (disch := first | omega | with_unfolding_all rfl) [h0, valErr]
  simp (disch := first | omega | with_unfolding_all rfl) [h0]
  have g := good_of h0
  refine G_brd (fun h8 => ?_) (fun h8 => ?_)
  · have : 300 < ls.length := by omega
    simp (disch := first | omega | with_unfolding_all rfl) [valErr, h0, this]
  simp (disch := first | omega | with_unfolding_all rfl) [h8]
  refine G_scanC [1, 2] 6 (badK ls) ls.length 0 (by simp) (Nat.zero_le _) ?_
  rintro i e - hi hz hk g6
  simp at hk
  simp (disch := first | omega | with_unfolding_all rfl) [hk, g6]
  refine G_brd (fun h7 => ?_) (fun h7 => ?_)
  · have hil : i < ls.length := by omega
    obtain ⟨x, hx⟩ : ∃ x, x = ls[i] := ⟨_, rfl⟩
    have bad : badK ls i = true → valErr r ls = 1 := fun hb => by
      have := anyN_t (n := ls.length) (Nat.zero_le i) hil hb
      simp [valErr, h0, this]
    have bk1 : badK ls i = (decide (x.k < 0) || (decide (5 < x.k) || (decide (0 < i) && !(match ls[i - 1]? with | some p => decide (ltS p x) | none => true)))) := by
      simp only [badK, List.getElem?_eq_getElem hil, ← hx]
    simp (disch := first | omega | with_unfolding_all rfl) [hk, g6, h7, ← hx]
    by_cases a1 : x.k < 0
    · simp (disch := first | omega | with_unfolding_all rfl) [a1, ← hx, bad (by simp [bk1, a1])]
    by_cases a2 : 5 < x.k
    · simp (disch := first | omega | with_unfolding_all rfl) [a1, a2, ← hx, bad (by simp [bk1]; omega)]
    by_cases a3 : 0 < i
    · have him : i - 1 < ls.length := by omega
      have hci : ((i : Int) - 1) = ((i - 1 : Nat) : Int) := by omega
      have hci2 : (0 : Int) < (i : Int) := by omega
      have hcm := less_ok ls[i - 1] x
      simp only [vS] at hcm
      simp (disch := first | omega | with_unfolding_all rfl) [hk, g6, a1, a2, a3, hci, hcm, ← hx]
      cases a4 : decide (ltS ls[i - 1] x)
      · have a6 : ¬ ltS ls[i - 1] x := by simpa only [decide_eq_false_iff_not] using a4
        simp (disch := first | omega | with_unfolding_all rfl) [hk, g6, a6, bad (by rw [bk1, List.getElem?_eq_getElem him]; simp only [a6, a3]; simp)]
      · have a6 : ltS ls[i - 1] x := by simpa only [decide_eq_true_eq] using a4
        simp (disch := first | omega | with_unfolding_all rfl) [hk, g6, bk1, a1, a2, him, a6]
    · obtain rfl : i = 0 := by omega
      simp (disch := first | omega | with_unfolding_all rfl) [hk, g6, a1, a2, bk1, ← hx]
  · have hb1 : anyN (badK ls) 0 ls.length = false := anyN_f fun j h1 h2 => hz j h1 (by omega)
    simp (disch := first | omega | with_unfolding_all rfl) [hk, g6, h7]
    refine G_scanC [1, 2] 7 (badP r ls) ls.length 0 (by simp) (Nat.zero_le _) ?_
    rintro i e - hi hz hk g7
    simp at hk
    simp (disch := first | omega | with_unfolding_all rfl) [hk, g7]
    refine G_brd (fun h7 => ?_) (fun h7 => ?_)
    · have hil : i < ls.length := by omega
      obtain ⟨x, hx⟩ : ∃ x, x = ls[i] := ⟨_, rfl⟩
      have hbl : ¬ 300 < ls.length := by omega
      have bad : badP r ls i = true → valErr r ls = 2 := fun hb => by
        have := anyN_t (n := ls.length) (Nat.zero_le i) hil hb
        simp [valErr, h0, hb1, hbl, this]
      have bp1 : badP r ls i = (!lie r x.t x.p || !has x.p x.o) := by simp only [badP, List.getElem?_eq_getElem hil, ← hx]
      have hlie := refLies_ok g x.t x.p
      simp (disch := first | omega | with_unfolding_all rfl) [hk, g7, h7, ← hx, hlie]
      cases a1 : lie r x.t x.p
      · simp (disch := first | omega | with_unfolding_all rfl) [a1, ← hx, bad (by simp [bp1, a1])]
      cases a2 : has x.p x.o
      · simp (disch := first | omega | with_unfolding_all rfl) [hk, g7, a1, a2, ← hx, has_ok, bad (by simp [bp1, a2])]
      · simp (disch := first | omega | with_unfolding_all rfl) [hk, g7, a1, a2, ← hx, has_ok, bp1]
    · have hb2 : anyN (badP r ls) 0 ls.length = false := anyN_f fun j h1 h2 => hz j h1 (by omega)
      have hbl : ¬ 300 < ls.length := by omega
      simp (disch := first | omega | with_unfolding_all rfl) [hk, g7, h7, valErr, h0, hb1, hb2, hbl]
end Go.Proofs.YtiaeckidlmoohaaGreat
end
