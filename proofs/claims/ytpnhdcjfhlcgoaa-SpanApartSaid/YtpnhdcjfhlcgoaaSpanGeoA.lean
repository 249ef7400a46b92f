/- Several texts in one: SpanGeo, SpanGeo2. -/
import Derived.Test.YtpnhdcjfhlcgoaaSpanLandA
import Derived.Test.YtpnhdcjfhlcgoaaPmTwenty
section
set_option linter.unusedVariables false
set_option linter.unusedSimpArgs false
set_option maxHeartbeats 4000000
set_option maxRecDepth 20000
namespace Go.Proofs.Ytpnhdcjfhlcgoaa
open Go.Proofs.Ytpnhdcjfhlcgoaa.PM

theorem evBin_or (k : IntKind) (a b : Int) : evBin .or (.int k a) (.int k b) = some (.int k (k.wrap ((BitVec.ofInt k.bits a ||| BitVec.ofInt k.bits b).toNat : Nat))) := by simp [evBin]

/-- A land that is right. -/
structure Good (l : Ld) (W H : Nat) : Prop where
  w : l.w = W
  h : l.h = H
  w4 : 4 ≤ W
  w32 : W ≤ 32
  h4 : 4 ≤ H
  h32 : H ≤ 32
  len : l.xs.length = (W + 1) * (H + 1)
  rg : ∀ j, j < l.xs.length → 0 ≤ zz l.xs j ∧ zz l.xs j ≤ 15
theorem good_of {l : Ld} (h : landErr l = 0) : ∃ W H, Good l W H := by
  unfold landErr at h
  split at h
  · cases h
  split at h
  · cases h
  rename_i h1 h2
  have h1 : dims l = true := by simpa using h1
  have h2 : anyN (badZ l.xs) 0 l.xs.length = false := by simpa using h2
  simp [dims] at h1
  obtain ⟨⟨⟨⟨a, b⟩, c⟩, d⟩, e⟩ := h1
  obtain ⟨w, hh, nl, xs⟩ := l
  dsimp only at *
  obtain ⟨W, rfl⟩ : ∃ W : Nat, w = W := ⟨w.toNat, by omega⟩
  obtain ⟨H, rfl⟩ : ∃ H : Nat, hh = H := ⟨hh.toNat, by omega⟩
  refine ⟨W, H, rfl, rfl, by omega, by omega, by omega, by omega, by exact_mod_cast e, fun j hj => ?_⟩
  have := anyN_off h2 (Nat.zero_le j) hj
  simp [badZ] at this
  dsimp only
  omega

def kk (W t : Nat) : Nat := t / W * (W + 1) + t % W
theorem kk_lt {W H t : Nat} (hW : 0 < W) (ht : t < W * H) : kk W t + W + 2 < (W + 1) * (H + 1) ∧ t / W ≤ t ∧ t % W < W ∧ t / W < H := by
  have h1 : t % W < W := Nat.mod_lt _ hW
  have h2 : t / W < H := Nat.div_lt_of_lt_mul ht
  have h3 : (t / W + 1) * (W + 1) ≤ H * (W + 1) := Nat.mul_le_mul_right _ h2
  have h4 : (t / W + 1) * (W + 1) = t / W * (W + 1) + (W + 1) := Nat.succ_mul _ _
  have h5 : (W + 1) * (H + 1) = H * (W + 1) + (W + 1) := by rw [Nat.mul_comm, Nat.succ_mul]
  unfold kk
  exact ⟨by omega, Nat.div_le_self _ _, h1, h2⟩
def cn0 (l : Ld) (W t : Nat) : Int := zz l.xs (kk W t)
def cn1 (l : Ld) (W t : Nat) : Int := zz l.xs (kk W t + 1)
def cn2 (l : Ld) (W t : Nat) : Int := zz l.xs (kk W t + W + 2)
def cn3 (l : Ld) (W t : Nat) : Int := zz l.xs (kk W t + W + 1)
theorem cn_rg {l : Ld} {W H t : Nat} (g : Good l W H) (ht : t < W * H) : (0 ≤ cn0 l W t ∧ cn0 l W t ≤ 15) ∧ (0 ≤ cn1 l W t ∧ cn1 l W t ≤ 15) ∧ (0 ≤ cn2 l W t ∧ cn2 l W t ≤ 15) ∧ (0 ≤ cn3 l W t ∧ cn3 l W t ≤ 15) := by
  have := (kk_lt (by have := g.w4; omega) ht).1
  have hl := g.len
  exact ⟨g.rg _ (by omega), g.rg _ (by omega), g.rg _ (by omega), g.rg _ (by omega)⟩
def vC (l : Ld) (W t : Nat) : PV := .agg [.int .i64 (cn0 l W t), .int .i64 (cn1 l W t), .int .i64 (cn2 l W t), .int .i64 (cn3 l W t)]

theorem corners_ok {l : Ld} {W H t : Nat} (hf : l.nl ≠ .bor) (g : Good l W H) (ht : t < W * H) : R tb 83 [vL l, .int .i64 (t : Int)] = some (vC l W t) := by
  have hk := kk_lt (by have := g.w4; omega) ht
  obtain ⟨w, hh, nl, xs⟩ := l
  obtain ⟨rfl, rfl, w4, w32, h4, h32, len, rg⟩ := g
  dsimp only at hf len rg
  have hb : (W + 1) * (H + 1) ≤ 33 * 33 := Nat.mul_le_mul (by omega) (by omega)
  have hq : ((t : Int)).tdiv (W : Int) = ((t / W : Nat) : Int) := by rw [tdiv_nn (by omega)]; rfl
  have hr : ((t : Int)).tmod (W : Int) = ((t % W : Nat) : Int) := by rw [tmod_nn (by omega)]; rfl
  have hw0 : ¬ W = 0 := by omega
  have htl : t < 33 * 33 := by
    have : W * H ≤ 33 * 33 := Nat.mul_le_mul (by omega) (by omega)
    omega
  obtain ⟨p, hp⟩ : ∃ p : Nat, p = t / W * (W + 1) := ⟨_, rfl⟩
  have hp0 : ((t / W : Nat) : Int) * ((W : Int) + 1) = (p : Int) := by rw [hp]; push_cast; rfl
  have hkk : kk W t = p + t % W := by rw [hp]; rfl
  unfold vC cn0 cn1 cn2 cn3
  simp only
  rw [hkk]
  rw [hkk] at hk
  generalize t / W = q at *
  generalize t % W = r at *
  have t0 : ((p : Int) + (r : Int)).toNat = p + r := by omega
  have t1 : ((p : Int) + (r : Int) + 1).toNat = p + r + 1 := by omega
  have t2 : ((p : Int) + (r : Int) + (W : Int) + 2).toNat = p + r + W + 2 := by omega
  have t3 : ((p : Int) + (r : Int) + (W : Int) + 1).toNat = p + r + W + 1 := by omega
  refine R_of_G (F := pf83) rfl rfl rfl ?_
  simp (disch := first | omega | with_unfolding_all rfl) [pf83, env0_eq, hf, hw0, hq, hr, hp0, zz_get, t0, t1, t2, t3]
theorem cornersR_ok {l : Ld} {W H t : Nat} (hf : l.nl ≠ .bor) (g : Good l W H) (ht : t < W * H) : R tb 58 [vL l, .int .i64 (t : Int)] = some (vC l W t) := by
  have hk := kk_lt (by have := g.w4; omega) ht
  obtain ⟨w, hh, nl, xs⟩ := l
  obtain ⟨rfl, rfl, w4, w32, h4, h32, len, rg⟩ := g
  dsimp only at hf len rg
  have hb : (W + 1) * (H + 1) ≤ 33 * 33 := Nat.mul_le_mul (by omega) (by omega)
  have hq : ((t : Int)).tdiv (W : Int) = ((t / W : Nat) : Int) := by rw [tdiv_nn (by omega)]; rfl
  have hr : ((t : Int)).tmod (W : Int) = ((t % W : Nat) : Int) := by rw [tmod_nn (by omega)]; rfl
  have hw0 : ¬ W = 0 := by omega
  have htl : t < 33 * 33 := by
    have : W * H ≤ 33 * 33 := Nat.mul_le_mul (by omega) (by omega)
    omega
  obtain ⟨p, hp⟩ : ∃ p : Nat, p = t / W * (W + 1) := ⟨_, rfl⟩
  have hp0 : ((t / W : Nat) : Int) * ((W : Int) + 1) = (p : Int) := by rw [hp]; push_cast; rfl
  have hkk : kk W t = p + t % W := by rw [hp]; rfl
  unfold vC cn0 cn1 cn2 cn3
  simp only
  rw [hkk]
  rw [hkk] at hk
  generalize t / W = q at *
  generalize t % W = r at *
  have t0 : ((p : Int) + (r : Int)).toNat = p + r := by omega
  have t1 : ((p : Int) + (r : Int) + 1).toNat = p + r + 1 := by omega
  have t2 : ((p : Int) + (r : Int) + (W : Int) + 2).toNat = p + r + W + 2 := by omega
  have t3 : ((p : Int) + (r : Int) + (W : Int) + 1).toNat = p + r + W + 1 := by omega
  refine R_of_G (F := pf58) rfl rfl rfl ?_
  simp (disch := first | omega | with_unfolding_all rfl) [pf58, env0_eq, hf, hw0, hq, hr, hp0, zz_get, t0, t1, t2, t3]

theorem ifmin (a b : Int) : (if b < a then b else a) = min a b := by split <;> omega
theorem ifmax (a b : Int) : (if a < b then b else a) = max a b := by split <;> omega
theorem min_ok {nl : Nl} {a b c d : Int} : R tb 84 [lst nl [a, b, c, d]] = some (.int .i64 (min (min (min a b) c) d)) := by
  have x0 : zz [a, b, c, d] 0 = a := rfl
  have x1 : zz [a, b, c, d] 1 = b := rfl
  have x2 : zz [a, b, c, d] 2 = c := rfl
  have x3 : zz [a, b, c, d] 3 = d := rfl
  have hl : [a, b, c, d].length = 4 := rfl
  generalize [a, b, c, d] = xs at *
  refine R_of_G (F := pf84) rfl rfl rfl ?_
  simp (disch := first | omega | with_unfolding_all rfl) [pf84, env0_eq, hl, zz_get, x0]
  rw [G_unroll]
  simp (disch := first | omega | with_unfolding_all rfl) [hl, zz_get, x1, ifmin]
  rw [G_unroll]
  simp (disch := first | omega | with_unfolding_all rfl) [hl, zz_get, x2, ifmin]
  rw [G_unroll]
  simp (disch := first | omega | with_unfolding_all rfl) [hl, zz_get, x3, ifmin]
  rw [G_unroll]
  simp (disch := first | omega | with_unfolding_all rfl) [hl, zz_get, x0, ifmin]
theorem max_ok {nl : Nl} {a b c d : Int} : R tb 85 [lst nl [a, b, c, d]] = some (.int .i64 (max (max (max a b) c) d)) := by
  have x0 : zz [a, b, c, d] 0 = a := rfl
  have x1 : zz [a, b, c, d] 1 = b := rfl
  have x2 : zz [a, b, c, d] 2 = c := rfl
  have x3 : zz [a, b, c, d] 3 = d := rfl
  have hl : [a, b, c, d].length = 4 := rfl
  generalize [a, b, c, d] = xs at *
  refine R_of_G (F := pf85) rfl rfl rfl ?_
  simp (disch := first | omega | with_unfolding_all rfl) [pf85, env0_eq, hl, zz_get, x0]
  rw [G_unroll]
  simp (disch := first | omega | with_unfolding_all rfl) [hl, zz_get, x1, ifmax]
  rw [G_unroll]
  simp (disch := first | omega | with_unfolding_all rfl) [hl, zz_get, x2, ifmax]
  rw [G_unroll]
  simp (disch := first | omega | with_unfolding_all rfl) [hl, zz_get, x3, ifmax]
  rw [G_unroll]
  simp (disch := first | omega | with_unfolding_all rfl) [hl, zz_get, x0, ifmax]
end Go.Proofs.Ytpnhdcjfhlcgoaa
end

section
set_option linter.unusedVariables false
set_option linter.unusedSimpArgs false
set_option maxHeartbeats 4000000
set_option maxRecDepth 20000
namespace Go.Proofs.Ytpnhdcjfhlcgoaa
open Go.Proofs.Ytpnhdcjfhlcgoaa.PM

def lo4 (a b c d : Int) : Int := min (min (min a b) c) d
def hi4 (a b c d : Int) : Int := max (max (max a b) c) d
def lo (l : Ld) (W t : Nat) : Int := lo4 (cn0 l W t) (cn1 l W t) (cn2 l W t) (cn3 l W t)
def hi (l : Ld) (W t : Nat) : Int := hi4 (cn0 l W t) (cn1 l W t) (cn2 l W t) (cn3 l W t)
theorem frz4 (e : TypeId) (a b c d : Int) : frz [⟨e, 0, [.int .i64 a, .int .i64 b, .int .i64 c, .int .i64 d]⟩] .bor 64 (.msl false 0 0 0 4 1) = some (lst .bor [a, b, c, d]) := by rfl
theorem base_ok {l : Ld} {W H t : Nat} (hf : l.nl ≠ .bor) (g : Good l W H) (ht : t < W * H) : R tb 67 [vL l, .int .i64 (t : Int)] = some (.tup [.int .i64 (lo l W t), .int .i64 (hi l W t)]) := by
  have hc := corners_ok hf g ht
  obtain ⟨w, hh, nl, xs⟩ := l
  dsimp only [vC] at hf hc
  unfold lo hi
  generalize cn0 ⟨w, hh, nl, xs⟩ W t = a at *
  generalize cn1 ⟨w, hh, nl, xs⟩ W t = b at *
  generalize cn2 ⟨w, hh, nl, xs⟩ W t = c at *
  generalize cn3 ⟨w, hh, nl, xs⟩ W t = d at *
  refine R_of_G (F := pf67) rfl rfl rfl ?_
  simp (disch := first | omega | with_unfolding_all rfl) [pf67, env0_eq, hf, hc, min_ok, max_ok, lo4, hi4, evSlcA, optIx, frz4]
theorem baseR_ok {l : Ld} {W H t : Nat} (hf : l.nl ≠ .bor) (g : Good l W H) (ht : t < W * H) : R tb 56 [vL l, .int .i64 (t : Int)] = some (.int .i64 (lo l W t)) := by
  have hc := cornersR_ok hf g ht
  obtain ⟨w, hh, nl, xs⟩ := l
  dsimp only [vC] at hf hc
  unfold lo
  generalize cn0 ⟨w, hh, nl, xs⟩ W t = a at *
  generalize cn1 ⟨w, hh, nl, xs⟩ W t = b at *
  generalize cn2 ⟨w, hh, nl, xs⟩ W t = c at *
  generalize cn3 ⟨w, hh, nl, xs⟩ W t = d at *
  refine R_of_G (F := pf56) rfl rfl rfl ?_
  simp (disch := first | omega | with_unfolding_all rfl) [pf56, env0_eq, hf, hc, lo4, ifmin, evIaA, ixIn, evFaddr]
end Go.Proofs.Ytpnhdcjfhlcgoaa
end
