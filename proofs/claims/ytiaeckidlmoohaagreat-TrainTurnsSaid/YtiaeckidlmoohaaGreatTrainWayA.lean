/- Several texts in one: TrainNext, TrainWay, TrainWay2. -/
import Derived.Test.YtiaeckidlmoohaaGreatTrainOrdA
import Derived.Test.YtiaeckidlmoohaaGreatPmTwentyNine
import Derived.Test.YtiaeckidlmoohaaGreatPmTwentyFive
section
set_option linter.unusedVariables false
set_option linter.unusedSimpArgs false
set_option maxHeartbeats 8000000
set_option maxRecDepth 20000
namespace Go.Proofs.YtiaeckidlmoohaaGreat
open Go.Proofs.YtiaeckidlmoohaaGreat.PM
theorem wrapI {a : Int} (h1 : -9223372036854775808 ≤ a) (h2 : a ≤ 9223372036854775807) : IntKind.i64.wrap a = a := by rw [IntKind.wrap_i64]; omega
theorem lie_lt {r : Rl} {t p : Int} (h : lie r t p = true) : 0 ≤ t ∧ t < r.w * r.h ∧ 0 ≤ p ∧ p < 6 := by
  unfold lie at h
  simp at h
  omega
theorem has_lt {p o : Int} (h : has p o = true) : 0 ≤ p ∧ p < 6 ∧ 0 ≤ o ∧ o < 4 := by
  unfold has at h
  simp at h
  obtain ⟨⟨h1, h2⟩, h3⟩ := h
  have : p = 0 ∨ p = 1 ∨ p = 2 ∨ p = 3 ∨ p = 4 ∨ p = 5 := by omega
  rcases this with rfl | rfl | rfl | rfl | rfl | rfl <;> simp [sa, sb] at h3 <;> omega
theorem beside_lt {t W H : Nat} (h : t < W * H) (h2 : t % W < W - 1) : t + 1 < W * H := by
  have h0 : 0 < W := by omega
  have h3 : (t + 1) / W = t / W := by
    have h4 := Nat.div_add_mod t W
    have h5 : t + 1 = (t % W + 1) + W * (t / W) := by omega
    conv => lhs; rw [h5]
    rw [Nat.add_mul_div_left _ _ h0, Nat.div_eq_of_lt (by omega)]
    omega
  have h4 : t / W < H := by rw [Nat.div_lt_iff_lt_mul h0, Nat.mul_comm]; exact h
  rw [Nat.mul_comm, ← Nat.div_lt_iff_lt_mul h0, h3]
  exact h4
theorem below_lt {t W H : Nat} (h0 : 0 < W) (h2 : t / W < H - 1) : t + W < W * H := by
  have : t / W + 1 < H := by generalize t / W = q at h2 ⊢; omega
  rw [Nat.mul_comm, ← Nat.div_lt_iff_lt_mul h0, Nat.add_div_right _ h0]
  exact this
/-- The tile beyond a side. -/
def bey (W H t : Nat) (s : Int) : Int :=
  if s = 0 then (if t % W + 1 < W then (t : Int) + 1 else -1) else if s = 1 then (if t / W + 1 < H then (t : Int) + W else -1) else
  if s = 2 then (if 1 ≤ t % W then (t : Int) - 1 else -1) else if s = 3 then (if 1 ≤ t / W then (t : Int) - W else -1) else t
theorem bey_ok {W H t : Nat} {s : Int} (hW : 4 ≤ W ∧ W ≤ 32) (hH : 4 ≤ H ∧ H ≤ 32) (ht : t < W * H) : R tc 166 [.int .i64 W, .int .i64 H, .int .i64 t, .int .i64 s] = some (.int .i64 (bey W H t s)) := by
  have tm : (t : Int).tmod (W : Int) = ((t % W : Nat) : Int) := rfl
  have td : (t : Int).tdiv (W : Int) = ((t / W : Nat) : Int) := rfl
  obtain ⟨a, ha⟩ : ∃ a, a = t % W := ⟨_, rfl⟩
  obtain ⟨b, hb⟩ : ∃ b, b = t / W := ⟨_, rfl⟩
  rw [← ha] at tm
  rw [← hb] at td
  have hal : a < W := by rw [ha]; exact Nat.mod_lt _ (by omega)
  have hbl : b < H := by rw [hb, Nat.div_lt_iff_lt_mul (by omega), Nat.mul_comm]; exact ht
  have hM : W * H ≤ 32 * 32 := Nat.mul_le_mul hW.2 hH.2
  obtain ⟨c, hc⟩ : ∃ c : Nat, c = b * W := ⟨_, rfl⟩
  have hdm : t = c + a := by have := Nat.div_add_mod t W; rw [← ha, ← hb, Nat.mul_comm] at this; omega
  have c0 : (b : Int) * (W : Int) = (c : Int) := by rw [hc]; push_cast; rfl
  have c1 : ((b : Int) + 1) * (W : Int) = (c : Int) + W := by rw [Int.add_mul, c0]; omega
  have c2 : ((b : Int) - 1) * (W : Int) = (c : Int) - W := by rw [Int.sub_mul, c0]; omega
  have hW0 : ¬ W = 0 := by omega
  have hcW : 1 ≤ b → W ≤ c := fun h => by rw [hc]; exact Nat.le_mul_of_pos_left W h
  have r1 : ¬ (a : Int) < 0 := by omega
  have r2 : ¬ (W : Int) ≤ a := by omega
  have r3 : ¬ (b : Int) < 0 := by omega
  have r4 : ¬ (H : Int) ≤ b := by omega
  refine R_of_G (F := pf166) (tc_nat _ rfl) rfl rfl ?_
  simp (disch := first | omega | with_unfolding_all rfl) [pf166, env0_eq, tm, td, hW0, bey, ← ha, ← hb]
  by_cases s0 : s = 0
  · subst s0
    have r5 : ¬ ((a : Int) + 1 < 0) := by omega
    by_cases g : a + 1 < W
    · have g' : ¬ (W : Int) ≤ (a : Int) + 1 := by omega
      simp (disch := first | omega | with_unfolding_all rfl) [tm, td, hW0, g, g', r1, r2, r3, r4, r5, c0]
      omega
    · have g' : (W : Int) ≤ (a : Int) + 1 := by omega
      simp (disch := first | omega | with_unfolding_all rfl) [tm, td, hW0, g, g', r1, r2, r3, r4, r5, c0]
  by_cases s1 : s = 1
  · subst s1
    have r5 : ¬ ((b : Int) + 1 < 0) := by omega
    by_cases g : b + 1 < H
    · have g' : ¬ (H : Int) ≤ (b : Int) + 1 := by omega
      simp (disch := first | omega | with_unfolding_all rfl) [tm, td, hW0, g, g', r1, r2, r3, r4, r5, c1]
      omega
    · have g' : (H : Int) ≤ (b : Int) + 1 := by omega
      simp (disch := first | omega | with_unfolding_all rfl) [tm, td, hW0, g, g', r1, r2, r3, r4, r5, c1]
  by_cases s2 : s = 2
  · subst s2
    have r5 : ¬ ((W : Int) ≤ (a : Int) - 1) := by omega
    by_cases g : 1 ≤ a
    · have g' : ¬ (a : Int) - 1 < 0 := by omega
      simp (disch := first | omega | with_unfolding_all rfl) [tm, td, hW0, g, g', r1, r2, r3, r4, r5, c0]
      omega
    · have g' : (a : Int) - 1 < 0 := by omega
      simp (disch := first | omega | with_unfolding_all rfl) [tm, td, hW0, g, g', r1, r2, r3, r4, r5, c0]
  by_cases s3 : s = 3
  · subst s3
    have r5 : ¬ ((H : Int) ≤ (b : Int) - 1) := by omega
    by_cases g : 1 ≤ b
    · have g' : ¬ (b : Int) - 1 < 0 := by omega
      simp (disch := first | omega | with_unfolding_all rfl) [tm, td, hW0, g, g', r1, r2, r3, r4, r5, c2]
      omega
    · have g' : (b : Int) - 1 < 0 := by omega
      simp (disch := first | omega | with_unfolding_all rfl) [tm, td, hW0, g, g', r1, r2, r3, r4, r5, c2]
  · simp (disch := first | omega | with_unfolding_all rfl) [tm, td, hW0, s0, s1, s2, s3, r1, r2, r3, r4, c0]
    omega
/-- The other end of a piece. -/
def oth (p s : Int) : Int := if s = sa p then sb p else sa p
theorem other_ok (p s : Int) : R tc 158 [.int .i64 p, .int .i64 s] = some (if has p s = true then .tup [.int .i64 (oth p s), .bool true] else .tup [.int .i64 0, .bool false]) := by
  refine R_of_G (F := pf158) (tc_nat _ rfl) rfl rfl ?_
  have h85 := ends_ok (p := p)
  by_cases h : 0 ≤ p ∧ p < 6
  · rw [if_pos h] at h85
    by_cases h1 : s = sa p
    · simp (disch := first | omega | with_unfolding_all rfl) [pf158, env0_eq, h85, has, h, h1, oth]
    · by_cases h2 : s = sb p
      · have h3 : ¬ sb p = sa p := by rw [← h2]; exact h1
        simp (disch := first | omega | with_unfolding_all rfl) [pf158, env0_eq, h85, has, h, h1, h2, h3, oth]
      · simp (disch := first | omega | with_unfolding_all rfl) [pf158, env0_eq, h85, has, h, h1, h2, oth]
  · rw [if_neg h] at h85
    have : has p s = false := by simp only [has]; rw [decide_eq_false h]; rfl
    simp (disch := first | omega | with_unfolding_all rfl) [pf158, env0_eq, h85, this]
/-- The spots behind a spot, of the first Q pieces. -/
def nxU (r : Rl) (u : Nat) (s : Int) (Q : Nat) : List So := (List.range Q).filterMap fun (q : Nat) => if (lie r u q && has q s) = true then some ⟨u, q, oth q s⟩ else none
theorem nxU_succ (r : Rl) (u : Nat) (s : Int) (Q : Nat) : nxU r u s (Q + 1) = nxU r u s Q ++ if (lie r u Q && has Q s) = true then [⟨u, Q, oth Q s⟩] else [] := by
  unfold nxU
  rw [List.range_succ, List.filterMap_append]
  congr 1
  rw [List.filterMap_cons, List.filterMap_nil]
  cases h : (lie r u Q && has Q s) <;> rfl
theorem nxU_len (r : Rl) (u : Nat) (s : Int) : ∀ Q, (nxU r u s Q).length ≤ Q
  | 0 => by simp [nxU]
  | Q + 1 => by
    have := nxU_len r u s Q
    rw [nxU_succ, List.length_append]
    split <;> simp <;> omega
noncomputable def nxt (r : Rl) (s : So) : List So := if bey r.w.toNat r.h.toNat s.t.toNat s.o < 0 then [] else nxU r (bey r.w.toNat r.h.toNat s.t.toNat s.o).toNat ((s.o + 2).tmod 4) 6
noncomputable def nxtV (r : Rl) (s : So) : PV := if bey r.w.toNat r.h.toNat s.t.toNat s.o < 0 then .list .nil 3 [] else lst .any (nxt r s)
theorem bey_lt {W H t : Nat} {s : Int} {u : Nat} (hW : 4 ≤ W) (ht : t < W * H) (hs : 0 ≤ s ∧ s < 4) (h : bey W H t s = (u : Int)) : u < W * H := by
  have hs4 : s = 0 ∨ s = 1 ∨ s = 2 ∨ s = 3 := by omega
  rcases hs4 with rfl | rfl | rfl | rfl
  · simp [bey] at h
    split at h
    · rename_i c
      have := beside_lt (t := t) (W := W) (H := H) ht (by omega)
      omega
    · omega
  · simp [bey] at h
    split at h
    · rename_i c
      have := below_lt (t := t) (W := W) (H := H) (by omega) (by generalize t / W = z at c ⊢; omega)
      omega
    · omega
  · simp [bey] at h
    split at h <;> omega
  · simp [bey] at h
    split at h <;> omega
theorem beside_ok {W H t : Nat} {s : Int} (hW : 4 ≤ W ∧ W ≤ 32) (hH : 4 ≤ H ∧ H ≤ 32) (ht : t < W * H) (hs : 0 ≤ s ∧ s < 4) : ∃ n, R tc 157 [.int .i64 W, .int .i64 H, .int .i64 t, .int .i64 s] = some (.tup [.int .i64 n, .bool (decide (0 ≤ bey W H t s))]) ∧ (0 ≤ bey W H t s → n = bey W H t s) := by
  have tm : (t : Int).tmod (W : Int) = ((t % W : Nat) : Int) := rfl
  have td : (t : Int).tdiv (W : Int) = ((t / W : Nat) : Int) := rfl
  obtain ⟨a, ha⟩ : ∃ a, a = t % W := ⟨_, rfl⟩
  obtain ⟨b, hb⟩ : ∃ b, b = t / W := ⟨_, rfl⟩
  rw [← ha] at tm
  rw [← hb] at td
  have hal : a < W := by rw [ha]; exact Nat.mod_lt _ (by omega)
  have hbl : b < H := by rw [hb, Nat.div_lt_iff_lt_mul (by omega), Nat.mul_comm]; exact ht
  have hM : W * H ≤ 32 * 32 := Nat.mul_le_mul hW.2 hH.2
  obtain ⟨c, hc⟩ : ∃ c : Nat, c = b * W := ⟨_, rfl⟩
  have hdm : t = c + a := by have := Nat.div_add_mod t W; rw [← ha, ← hb, Nat.mul_comm] at this; omega
  have c0 : (b : Int) * (W : Int) = (c : Int) := by rw [hc]; push_cast; rfl
  have c1 : ((b : Int) + 1) * (W : Int) = (c : Int) + W := by rw [Int.add_mul, c0]; omega
  have c2 : ((b : Int) + -1) * (W : Int) = (c : Int) - W := by rw [Int.add_mul, c0]; omega
  have hW0 : ¬ W = 0 := by omega
  have hcW : 1 ≤ b → W ≤ c := fun h => by rw [hc]; exact Nat.le_mul_of_pos_left W h
  have r1 : (0 : Int) ≤ a := by omega
  have r2 : (a : Int) < W := by omega
  have r3 : (0 : Int) ≤ b := by omega
  have r4 : (b : Int) < H := by omega
  have hs4 : s = 0 ∨ s = 1 ∨ s = 2 ∨ s = 3 := by omega
  rcases hs4 with rfl | rfl | rfl | rfl
  · refine ⟨(c : Int) + (a + 1), ?_, fun h => ?_⟩
    · refine R_of_G (F := pf157) (tc_nat _ rfl) rfl rfl ?_
      have r5 : (0 : Int) ≤ (a : Int) + 1 := by omega
      by_cases g : a + 1 < W
      · have g' : (a : Int) + 1 < W := by omega
        have q : (0 : Int) ≤ (t : Int) + 1 := by omega
        simp (disch := first | omega | with_unfolding_all rfl) [pf157, env0_eq, tm, td, hW0, bey, ← ha, ← hb, c0, r3, r4, r5, g, g', q]
      · have g' : ¬ (a : Int) + 1 < W := by omega
        simp (disch := first | omega | with_unfolding_all rfl) [pf157, env0_eq, tm, td, hW0, bey, ← ha, ← hb, c0, r3, r4, r5, g, g']
    · simp [bey] at h ⊢
      split at h
      · rename_i q; rw [if_pos q]; omega
      · omega
  · refine ⟨(c : Int) + W + a, ?_, fun h => ?_⟩
    · refine R_of_G (F := pf157) (tc_nat _ rfl) rfl rfl ?_
      have r5 : (0 : Int) ≤ (b : Int) + 1 := by omega
      by_cases g : b + 1 < H
      · have g' : (b : Int) + 1 < H := by omega
        have q : (0 : Int) ≤ (t : Int) + W := by omega
        simp (disch := first | omega | with_unfolding_all rfl) [pf157, env0_eq, tm, td, hW0, bey, ← ha, ← hb, c1, r1, r2, r5, g, g', q]
      · have g' : ¬ (b : Int) + 1 < H := by omega
        simp (disch := first | omega | with_unfolding_all rfl) [pf157, env0_eq, tm, td, hW0, bey, ← ha, ← hb, c1, r1, r2, r5, g, g']
    · simp [bey] at h ⊢
      split at h
      · rename_i q; rw [if_pos q]; omega
      · omega
  · refine ⟨(c : Int) + (a + -1), ?_, fun h => ?_⟩
    · refine R_of_G (F := pf157) (tc_nat _ rfl) rfl rfl ?_
      have r5 : (a : Int) + -1 < W := by omega
      by_cases g : 1 ≤ a
      · have g' : (0 : Int) ≤ (a : Int) + -1 := by omega
        have q : (0 : Int) ≤ (t : Int) - 1 := by omega
        simp (disch := first | omega | with_unfolding_all rfl) [pf157, env0_eq, tm, td, hW0, bey, ← ha, ← hb, c0, r3, r4, r5, g, g', q]
        omega
      · have g' : ¬ (0 : Int) ≤ (a : Int) + -1 := by omega
        simp (disch := first | omega | with_unfolding_all rfl) [pf157, env0_eq, tm, td, hW0, bey, ← ha, ← hb, c0, r3, r4, r5, g, g']
    · simp [bey] at h ⊢
      split at h
      · rename_i q; rw [if_pos q]; omega
      · omega
  · refine ⟨(c : Int) - W + a, ?_, fun h => ?_⟩
    · refine R_of_G (F := pf157) (tc_nat _ rfl) rfl rfl ?_
      have r5 : (b : Int) + -1 < H := by omega
      by_cases g : 1 ≤ b
      · have g' : (0 : Int) ≤ (b : Int) + -1 := by omega
        have q : (0 : Int) ≤ (t : Int) - W := by have := hcW g; omega
        simp (disch := first | omega | with_unfolding_all rfl) [pf157, env0_eq, tm, td, hW0, bey, ← ha, ← hb, c2, r1, r2, r5, g, g', q]
        have := hcW g
        omega
      · have g' : ¬ (0 : Int) ≤ (b : Int) + -1 := by omega
        simp (disch := first | omega | with_unfolding_all rfl) [pf157, env0_eq, tm, td, hW0, bey, ← ha, ← hb, c2, r1, r2, r5, g, g']
    · simp [bey] at h ⊢
      split at h
      · rename_i q; rw [if_pos q]; omega
      · omega
/-- The place of a spot that is there. -/
structure At (r : Rl) (s : So) (W H T : Nat) : Prop where
  w : r.w = W
  h : r.h = H
  t : s.t = T
  lt : T < W * H
  ln : r.s.length = W * H
  rg : 0 ≤ s.p ∧ s.p < 6 ∧ 0 ≤ s.o ∧ s.o < 4
  bw : 4 ≤ W ∧ W ≤ 32
  bh : 4 ≤ H ∧ H ≤ 32
theorem at_of {r : Rl} (g : Good r) {s : So} (h1 : has s.p s.o = true) (h2 : lie r s.t s.p = true) : ∃ W H T, At r s W H T := by
  have hl := lie_lt h2
  have hh := has_lt h1
  obtain ⟨W, rw1⟩ : ∃ W : Nat, r.w = W := ⟨r.w.toNat, by have := g.w0; omega⟩
  obtain ⟨H, rh1⟩ : ∃ H : Nat, r.h = H := ⟨r.h.toNat, by have := g.h0; omega⟩
  have hWH : r.w * r.h = ((W * H : Nat) : Int) := by rw [rw1, rh1]; push_cast; rfl
  have := g.ls
  exact ⟨W, H, s.t.toNat, rw1, rh1, by omega, by omega, by omega, by omega, by have := g.w0; have := g.w1; omega, by have := g.h0; have := g.h1; omega⟩
theorem At.nxt {r : Rl} {s : So} {W H T : Nat} (a : At r s W H T) : nxtV r s = if bey W H T s.o < 0 then .list .nil 3 [] else lst .any (nxt r s) := by
  unfold nxtV
  rw [a.w, a.h, a.t]; rfl
theorem At.nxt' {r : Rl} {s : So} {W H T : Nat} (a : At r s W H T) : YtiaeckidlmoohaaGreat.nxt r s = if bey W H T s.o < 0 then [] else nxU r (bey W H T s.o).toNat ((s.o + 2).tmod 4) 6 := by
  unfold YtiaeckidlmoohaaGreat.nxt
  rw [a.w, a.h, a.t]; rfl
theorem nextP_ok {r : Rl} (g : Good r) {s : So} (h1 : has s.p s.o = true) (h2 : lie r s.t s.p = true) : R tc 135 [vR r, vSo s] = some (nxtV r s) := by
  obtain ⟨W, H, T, a⟩ := at_of g h1 h2
  have hN := a.nxt
  have hN' := a.nxt'
  obtain ⟨hw, hh, ht, hlt, hln, rg, bw, bh⟩ := a
  have hM : W * H ≤ 32 * 32 := Nat.mul_le_mul bw.2 bh.2
  obtain ⟨st, sp, so⟩ := s
  dsimp only at *
  subst ht
  obtain ⟨n, h112, hn⟩ := beside_ok bw bh hlt (s := so) (by omega)
  obtain ⟨B, hB⟩ : ∃ B, B = bey W H T so := ⟨_, rfl⟩
  rw [← hB] at hN hN' h112 hn
  rw [hN]
  refine R_of_G (F := pf135) (tc_nat _ rfl) rfl rfl ?_
  by_cases hb : B < 0
  · have hb' : ¬ 0 ≤ B := by omega
    simp (disch := first | omega | with_unfolding_all rfl) [pf135, env0_eq, hw, hh, h112, hb, hb']
  have hb' : 0 ≤ B := by omega
  obtain ⟨u, hu⟩ : ∃ u : Nat, B = u := ⟨B.toNat, by omega⟩
  have hnu : n = (u : Int) := by rw [hn hb', hu]
  have huM := bey_lt bw.1 hlt (s := so) (by omega) (hB.symm.trans hu)
  rw [if_neg hb, hu] at hN'
  rw [if_neg hb, hN']
  have hu0 : ((u : Int)).toNat = u := by omega
  rw [hu0]
  subst hnu
  obtain ⟨s2, hs2⟩ : ∃ s2, s2 = (so + 2).tmod 4 := ⟨_, rfl⟩
  have hus : u < r.s.length := by omega
  have hgu := ss_get hus
  have hrg := g.rg u hus
  rw [← hs2]
  have hmod : IntKind.i64.wrap (so + 2) = so + 2 := wrapI (by omega) (by omega)
  simp (disch := first | omega | with_unfolding_all rfl) [pf135, env0_eq, hw, hh, h112, hb']
  refine G_loopK [2, 3, 5] (fun (Q : Nat) e hh => Q ≤ 6 ∧ get e 25 = .int .i64 (Q : Int) ∧ get e 7 = mls So 0 (nxU r u s2 Q).length (nxU r u s2 Q).length ∧ hh = [bk 54 (nxU r u s2 Q).length (nxU r u s2 Q)]) (fun Q => 6 - Q) (a₀ := 0) ⟨by omega, by simp, rfl, rfl⟩ ?_
  rintro Q e h hk ⟨hQ, g25, g7, rfl⟩
  simp at hk
  have hnl := nxU_len r u s2 Q
  obtain ⟨acc, hacc⟩ : ∃ acc, acc = nxU r u s2 Q := ⟨_, rfl⟩
  have hsc := nxU_succ r u s2 Q
  rw [← hacc] at g7 hnl hsc ⊢
  simp (disch := first | omega | with_unfolding_all rfl) [hk, g25]
  refine G_brd (fun d => ?_) (fun d => ?_)
  · have hQ6 : Q < 6 := by omega
    have hP : ¬ (Q : Int) < 0 := by omega
    have hmin : min Q IntKind.i64.bits = Q := Nat.min_eq_left (by show Q ≤ 64; omega)
    have hO := other_ok (Q : Int) s2
    have hlie : lie r u Q = decide ((ss r u).fdiv (2 ^ Q) % 2 = 1) := by
      have : ((W : Int) * (H : Int)) = ((W * H : Nat) : Int) := by push_cast; rfl
      have c1 : (u : Int) < (W : Int) * (H : Int) := by omega
      simp [lie, bitq, hw, hh, c1]
      omega
    have hm2 : (ss r u).fdiv (2 ^ Q) % 2 = 0 ∨ (ss r u).fdiv (2 ^ Q) % 2 = 1 := by omega
    simp (disch := first | omega | with_unfolding_all rfl) [hk, g25, g7, d, hgu, hP, hmin]
    rcases hm2 with m | m
    · have hl0 : lie r u Q = false := by rw [hlie, m]; rfl
      rw [hl0] at hsc
      simp at hsc
      simp (disch := first | omega | with_unfolding_all rfl) [hk, g25, g7, m]
      refine ⟨Q + 1, by omega, by omega, by omega, ?_⟩
      rw [hsc]; simp
    · have hl1 : lie r u Q = true := by rw [hlie, m]; rfl
      rw [hl1] at hsc
      cases hh2 : has Q s2
      · rw [hh2] at hO hsc
        simp at hsc
        rw [if_neg (by decide)] at hO
        simp (disch := first | omega | with_unfolding_all rfl) [hk, g25, g7, m, hmod, ← hs2, hO]
        refine ⟨Q + 1, by omega, by omega, by omega, ?_⟩
        rw [hsc]; simp
      · rw [hh2] at hO hsc
        simp at hsc
        rw [if_pos rfl] at hO
        simp (disch := first | omega | with_unfolding_all rfl) [hk, g25, g7, m, hmod, ← hs2, hO]
        refine ⟨Q + 1, by omega, by omega, by omega, ?_⟩
        rw [hsc]; simp
  · have hQ6 : Q = 6 := by omega
    subst hQ6
    simp (disch := first | omega | with_unfolding_all rfl) [hk, g25, g7, d, ← hacc]
def spErr (r : Rl) (s : So) : Int := if has s.p s.o = true then (if lie r s.t s.p = true then 0 else 2) else 1
noncomputable def nextV (r : Rl) (s : So) : PV := if spErr r s = 0 then .tup [nxtV r s, .int .i64 0] else .tup [.list .nil 3 [], .int .i64 (spErr r s)]
theorem nxtV_cases (r : Rl) (s : So) : (nxtV r s = .list .nil 3 [] ∧ nxt r s = []) ∨ nxtV r s = lst .any (nxt r s) := by
  unfold nxtV
  split
  · rename_i h
    refine .inl ⟨rfl, ?_⟩
    unfold nxt; rw [if_pos h]
  · exact .inr rfl
theorem spErr0 {r : Rl} {s : So} (h : spErr r s = 0) : has s.p s.o = true ∧ lie r s.t s.p = true := by
  unfold spErr at h
  split at h
  · split at h
    · exact ⟨by assumption, by assumption⟩
    · cases h
  · cases h
theorem back_ok (s : So) : ∃ x, R tc 170 [vSo s] = some (.tup [x, .int .i64 (if has s.p s.o = true then 0 else 1)]) ∧ ∃ a b c, x = .agg [.int .i64 a, .int .i64 b, .int .i64 c] := by
  obtain ⟨st, sp, so⟩ := s
  have hO := other_ok sp so
  cases h : has sp so
  · rw [h, if_neg (by decide)] at hO
    refine ⟨.agg [.int .i64 0, .int .i64 0, .int .i64 0], ?_, _, _, _, rfl⟩
    refine R_of_G (F := pf170) (tc_nat _ rfl) rfl rfl ?_
    simp (disch := first | omega | with_unfolding_all rfl) [pf170, env0_eq, hO]
  · rw [h, if_pos rfl] at hO
    refine ⟨.agg [.int .i64 st, .int .i64 sp, .int .i64 (oth sp so)], ?_, _, _, _, rfl⟩
    refine R_of_G (F := pf170) (tc_nat _ rfl) rfl rfl ?_
    simp (disch := first | omega | with_unfolding_all rfl) [pf170, env0_eq, hO]
theorem tile_ok {r : Rl} (g : Good r) (t : Int) : R tc 171 [vR r, .int .i64 t] = some (.bool (decide (0 ≤ t) && decide (t < r.w * r.h))) := by
  have hm := g.mul
  have := g.w1
  have := g.h1
  have := g.w0
  have := g.h0
  obtain ⟨w, h, n1, s, n2, d⟩ := r
  dsimp only at *
  refine R_of_G (F := pf171) (tc_nat _ rfl) rfl rfl ?_
  by_cases a1 : 0 ≤ t
  · by_cases a2 : t < w * h
    · simp (disch := first | omega | with_unfolding_all rfl) [pf171, env0_eq, a1, a2]
    · simp (disch := first | omega | with_unfolding_all rfl) [pf171, env0_eq, a1, a2]
  · simp (disch := first | omega | with_unfolding_all rfl) [pf171, env0_eq, a1]
theorem thereP_ok {r : Rl} (g : Good r) (s : So) : R tc 156 [vR r, vSo s] = some (.int .i64 (spErr r s)) := by
  obtain ⟨x, h118, a, b, c, rfl⟩ := back_ok s
  have h99 := tile_ok g s.t
  have hls := g.ls
  have hm := g.mul
  obtain ⟨st, sp, so⟩ := s
  dsimp only at h99
  simp only [vSo] at h118
  refine R_of_G (F := pf156) (tc_nat _ rfl) rfl rfl ?_
  cases h1 : has sp so
  · rw [h1, if_neg (by decide)] at h118
    simp (disch := first | omega | with_unfolding_all rfl) [pf156, env0_eq, h118, spErr, h1]
  rw [h1, if_pos rfl] at h118
  have hh := has_lt h1
  by_cases a1 : 0 ≤ st
  case neg =>
    have : lie r st sp = false := by
      cases c : lie r st sp
      · rfl
      · have := lie_lt c; omega
    simp (disch := first | omega | with_unfolding_all rfl) [pf156, env0_eq, h118, h99, spErr, h1, a1, this]
  by_cases a2 : st < r.w * r.h
  case neg =>
    have : lie r st sp = false := by
      cases c : lie r st sp
      · rfl
      · have := lie_lt c; omega
    simp (disch := first | omega | with_unfolding_all rfl) [pf156, env0_eq, h118, h99, spErr, h1, a1, a2, this]
  obtain ⟨T, rfl⟩ : ∃ T : Nat, st = T := ⟨st.toNat, by omega⟩
  obtain ⟨P, rfl⟩ : ∃ P : Nat, sp = P := ⟨sp.toNat, by omega⟩
  have hT : T < r.s.length := by omega
  have hgT := ss_get hT
  have hrg := g.rg T hT
  have hP : ¬ (P : Int) < 0 := by omega
  have hmin : min P IntKind.i64.bits = P := Nat.min_eq_left (by show P ≤ 64; omega)
  have hlie : lie r T P = decide ((ss r T).fdiv (2 ^ P) % 2 = 1) := by
    simp [lie, bitq, a2]
    omega
  have hm2 : (ss r T).fdiv (2 ^ P) % 2 = 0 ∨ (ss r T).fdiv (2 ^ P) % 2 = 1 := by omega
  rcases hm2 with m | m
  · have hl0 : lie r T P = false := by rw [hlie, m]; rfl
    simp (disch := first | omega | with_unfolding_all rfl) [pf156, env0_eq, h118, h99, spErr, h1, a1, a2, hgT, hP, hmin, m, hl0]
  · have hl0 : lie r T P = true := by rw [hlie, m]; rfl
    simp (disch := first | omega | with_unfolding_all rfl) [pf156, env0_eq, h118, h99, spErr, h1, a1, a2, hgT, hP, hmin, m, hl0]
theorem all_ok {r : Rl} (g : Good r) (h0 : railErr r = 0) (hb : r.s.length ≤ 3000) (s : So) : R tc 134 [vR r, lst .ex [s]] = some (.int .i64 (spErr r s)) := by
  have h52 := railV_ok r hb
  rw [h0] at h52
  have h111 := thereP_ok g s
  obtain ⟨st, sp, so⟩ := s
  obtain ⟨L, hL⟩ : ∃ L, L = [So.mk st sp so] := ⟨_, rfl⟩
  have hLl : L.length = 1 := by rw [hL]; rfl
  have hLg : ∀ q, L[0]'q = ⟨st, sp, so⟩ := by subst hL; intro q; rfl
  rw [← hL]
  clear hL
  refine R_of_G (F := pf134) (tc_nat _ rfl) rfl rfl ?_
  simp (disch := first | omega | with_unfolding_all rfl) [pf134, env0_eq, h52, hLl]
  refine G_loopK [2, 14, 15] (fun (i : Nat) e h => i ≤ 1 ∧ get e 16 = .int .i64 (i : Int) ∧ h = [] ∧ (i = 1 → spErr r ⟨st, sp, so⟩ = 0)) (fun i => 1 - i) (a₀ := 0) ⟨by omega, by simp, rfl, fun h => by omega⟩ ?_
  rintro i e h hk ⟨hi, g16, rfl, hz⟩
  simp at hk
  have hi2 : i = 0 ∨ i = 1 := by omega
  rcases hi2 with rfl | rfl
  · by_cases h0 : spErr r ⟨st, sp, so⟩ = 0
    · simp (disch := first | omega | decide | with_unfolding_all rfl) [hk, g16, h111, h0, hLg]
      exact ⟨1, by omega, by omega, by omega⟩
    · simp (disch := first | omega | decide | with_unfolding_all rfl) [hk, g16, h111, h0, hLg]
  · have h0 := hz rfl
    simp (disch := first | omega | with_unfolding_all rfl) [hk, g16, h0]
theorem next_ok {r : Rl} (g : Good r) (h0 : railErr r = 0) (hb : r.s.length ≤ 3000) (s : So) : R tc 90 [vR r, vSo s] = some (nextV r s) := by
  have h94 := all_ok g h0 hb s
  refine R_of_G (F := pf90) (tc_nat _ rfl) rfl rfl ?_
  by_cases h : spErr r s = 0
  · obtain ⟨h1, h2⟩ := spErr0 h
    have h95 := nextP_ok g h1 h2
    rcases nxtV_cases r s with ⟨q, _⟩ | q <;> rw [q] at h95 <;> simp (disch := first | omega | with_unfolding_all rfl) [pf90, env0_eq, h94, h, h95, nextV, q]
  · simp (disch := first | omega | with_unfolding_all rfl) [pf90, env0_eq, h94, h, nextV]
end Go.Proofs.YtiaeckidlmoohaaGreat
end

section
set_option linter.unusedVariables false
set_option linter.unusedSimpArgs false
set_option maxHeartbeats 8000000
set_option maxRecDepth 20000
namespace Go.Proofs.YtiaeckidlmoohaaGreat
open Go.Proofs.YtiaeckidlmoohaaGreat.PM

/-- A call by value, whose result is found on the way. -/
theorem R_ex {T : Table} {f : Nat} {args : List PV} {F : PFn} {Rq : PV → Prop} (hn : T.nat f args = none) (hF : findF T.fns f = some F) (hl : args.length = F.np)
    (hg : G T [.code F.body] .normal (env0 args) [] (fun x e h => ends x = true ∧ ∃ v, (retV e h F.res).bind (frz h .any 64) = some v ∧ Rq v)) : ∃ v, R T f args = some v ∧ Rq v := by
  rw [G_code] at hg
  obtain ⟨q, hq, hg⟩ := hg
  rw [G_nil] at hg
  obtain ⟨h1, v, h2, h4⟩ := hg
  refine ⟨v, R_of_G hn hF hl ?_, h4⟩
  rw [G_code]
  exact ⟨q, hq, by rw [G_nil]; exact ⟨h1, h2⟩⟩
theorem index_ok {nl : Nl} (xs : List So) (n : So) (h : xs.length ≤ 100000) : ∃ i : Int, R tc 143 [lst nl xs, vSo n] = some (.int .i64 i) ∧ (0 ≤ i ↔ n ∈ xs) := by
  obtain ⟨v, h1, i, rfl, h2⟩ := R_ex (T := tc) (f := 143) (F := pf143) (args := [lst nl xs, vSo n]) (Rq := fun v => ∃ i : Int, v = .int .i64 i ∧ (0 ≤ i ↔ n ∈ xs)) (tc_nat _ rfl) rfl rfl (by
    obtain ⟨a, b, c⟩ := n
    simp (disch := first | omega | with_unfolding_all rfl) [pf143, env0_eq]
    refine G_scanC [0, 3, 7] 8 (fun i => match xs[i]? with | some x => decide ((⟨a, b, c⟩ : So) = x) | none => false) xs.length 0 (by simp) (Nat.zero_le _) ?_
    rintro i e - hi hz hk g8
    simp at hk
    simp (disch := first | omega | with_unfolding_all rfl) [hk, g8]
    refine G_brd (fun d => ?_) (fun d => ?_)
    · have hin : i < xs.length := by omega
      obtain ⟨x, hx⟩ : ∃ x, x = xs[i] := ⟨_, rfl⟩
      simp (disch := first | omega | with_unfolding_all rfl) [hk, g8, d, ← hx]
      cases c1 : (a == x.t && (b == x.p && c == x.o))
      · simp (disch := first | omega | with_unfolding_all rfl) [hk, g8]
        intro q; subst q; simp at c1
      · simp (disch := first | omega | with_unfolding_all rfl) [hk, g8]
        simp at c1
        have : (⟨a, b, c⟩ : So) = x := so_ext.2 c1
        rw [this, hx]; exact List.getElem_mem hin
    · simp (disch := first | omega | with_unfolding_all rfl) [hk, g8, d]
      intro hx
      obtain ⟨j, hj, hx⟩ := List.getElem_of_mem hx
      have := hz j (Nat.zero_le j) (by omega)
      simp only [List.getElem?_eq_getElem hj, hx] at this
      simp at this)
  exact ⟨i, h1, h2⟩
theorem contains_ok {nl : Nl} (xs : List So) (n : So) (h : xs.length ≤ 100000) : R tc 94 [lst nl xs, vSo n] = some (.bool (decide (n ∈ xs))) := by
  obtain ⟨i, h96, hi⟩ := index_ok (nl := nl) xs n h
  obtain ⟨a, b, c⟩ := n
  refine R_of_G (F := pf94) (tc_nat _ rfl) rfl rfl ?_
  have : decide (0 ≤ i) = decide ((⟨a, b, c⟩ : So) ∈ xs) := by rw [Bool.eq_iff_iff, decide_eq_true_eq, decide_eq_true_eq]; exact hi
  simp (disch := first | omega | with_unfolding_all rfl) [pf94, env0_eq, h96]
  simpa using this
/-- A train's way: from its last spot on. -/
def wy (t : Tr) : List So := t.s.reverse ++ t.a
theorem way_ok (t : Tr) (h1 : t.s.length ≤ 2000) (h2 : t.a.length ≤ 2000) : R tc 67 [vTr t] = some (lst .any (wy t)) := by
  obtain ⟨n, v, d, n1, s, n2, a⟩ := t
  dsimp only at h1 h2
  refine R_of_G (F := pf67) (tc_nat _ rfl) rfl rfl ?_
  simp (disch := first | omega | with_unfolding_all rfl) [pf67, env0_eq]
  refine G_loopK [1, 7] (fun (i : Nat) e h => i ≤ s.length ∧ get e 8 = .int .i64 (i : Int) ∧ get e 3 = mls So 0 i i ∧ h = [bk 54 i (s.reverse.take i)]) (fun i => s.length - i) (a₀ := 0) ⟨by omega, by simp, by simp [mls], by simp⟩ ?_
  rintro i e h hk ⟨hi, g8, g3, rfl⟩
  simp at hk
  have hlen : (s.reverse.take i).length = i := by simp; omega
  obtain ⟨acc, hacc⟩ : ∃ acc, acc = s.reverse.take i := ⟨_, rfl⟩
  rw [← hacc] at hlen ⊢
  simp (disch := first | omega | with_unfolding_all rfl) [hk, g8]
  refine G_brd (fun d => ?_) (fun d => ?_)
  · have hix : (s.length : Int) - 1 - i = ((s.length - 1 - i : Nat) : Int) := by omega
    have hl : s.length - 1 - i < s.length := by omega
    have hsn : acc ++ [s[s.length - 1 - i]] = s.reverse.take (i + 1) := by
      rw [hacc, List.take_add_one, List.getElem?_reverse (by omega)]
      simp [hl]
    simp (disch := first | omega | with_unfolding_all rfl) [hk, g8, g3, d, hix, hl, hsn]
    exact ⟨i + 1, by omega, by omega, by omega, rfl, rfl, rfl⟩
  · have hi2 : i = s.length := by omega
    subst hi2
    have hr : acc = s.reverse := by rw [hacc]; exact List.take_of_length_le (by simp)
    have hal : (acc ++ a).length = s.length + a.length := by simp; omega
    simp (disch := first | omega | with_unfolding_all rfl) [hk, g8, g3, d]
    by_cases ha : a = []
    · subst ha
      simp (disch := first | omega | with_unfolding_all rfl)
      simp [hr, wy]
    · simp (disch := first | omega | with_unfolding_all rfl) [ha]
      simp [hr, wy]
/-- Turned round, in place. -/
theorem reverse_ok {xs : List So} {b e g : Nat} {H : Hp} (hb : H[b]? = some (bk e g xs)) (hl : xs.length ≤ 100000) : RO tc 109 [mls So b g xs.length] H = some (.tup [], H.set b (bk e g xs.reverse)) := by
  have hbl : b < H.length := (List.getElem?_eq_some_iff.1 hb).1
  refine RO_of_G (F := pf109) (tc_natO _ _ rfl) rfl rfl ?_
  simp (disch := first | omega | with_unfolding_all rfl) [pf109, env0_eq]
  refine G_loopK [0] (fun (i : Nat) e' h => ∃ ys : List So, ys.length = xs.length ∧ get e' 2 = .int .i64 (i : Int) ∧ get e' 3 = .int .i64 ((xs.length : Int) - 1 - i) ∧ 2 * i ≤ xs.length ∧ h = H.set b (bk e g ys) ∧
      ∀ k, k < xs.length → ys[k]? = if k < i ∨ xs.length - 1 - i < k then xs[xs.length - 1 - k]? else xs[k]?) (fun i => xs.length - i) (a₀ := 0) ?_ ?_
  · refine ⟨xs, rfl, by simp, by simp, by omega, ?_, fun k hk => ?_⟩
    · symm
      apply List.ext_getElem?
      intro j
      rw [List.getElem?_set]
      split
      · rename_i q
        subst q
        rw [List.getElem?_eq_getElem hbl] at hb
        simp [hbl, Option.some.inj hb]
      · rfl
    · rw [if_neg (by omega)]
  rintro i e' h hk ⟨ys, hyl, g2, g3, hi, rfl, hy⟩
  simp at hk
  simp (disch := first | omega | with_unfolding_all rfl) [hk, g2, g3]
  refine G_brd (fun d => ?_) (fun d => ?_)
  · have hij : i < xs.length - 1 - i := by omega
    have hcj : (xs.length : Int) - 1 - i = ((xs.length - 1 - i : Nat) : Int) := by omega
    have hi1 : i < ys.length := by omega
    have hj1 : xs.length - 1 - i < ys.length := by omega
    have hset : ∀ y : So, xs.length - 1 - i < (ys.set i y).length := fun y => by simp; omega
    simp (disch := first | omega | exact hset _ | with_unfolding_all rfl) [hk, g2, g3, hcj, hbl, hi1, hj1]
    refine ⟨i + 1, by omega, _, ?_, by omega, by omega, by omega, rfl, ?_⟩
    · simp; omega
    intro k hk2
    rw [← List.getElem?_eq_getElem (l := xs) (i := xs.length - 1 - k) (by omega), List.getElem?_set, List.getElem?_set]
    have hyi := hy i (by omega)
    have hyj := hy (xs.length - 1 - i) (by omega)
    rw [List.getElem?_eq_getElem hi1, if_neg (by omega)] at hyi
    rw [List.getElem?_eq_getElem hj1, if_neg (by omega)] at hyj
    by_cases c1 : xs.length - 1 - i = k
    · rw [if_pos c1, if_pos (by simp; omega), if_pos (by omega)]
      have : xs.length - 1 - k = i := by omega
      rw [this, ← hyi]
    · rw [if_neg c1]
      by_cases c2 : i = k
      · rw [if_pos c2, if_pos (by omega), if_pos (by omega), ← c2, ← hyj]
      · rw [if_neg c2, hy k hk2]
        by_cases c3 : k < i ∨ xs.length - 1 - i < k
        · rw [if_pos c3, if_pos (by omega)]
        · rw [if_neg c3, if_neg (by omega)]
  · simp (disch := first | omega | with_unfolding_all rfl) [hk, g2, g3]
    congr 1
    have : ys = xs.reverse := by
      apply List.ext_getElem?
      intro k
      by_cases hk2 : k < xs.length
      · rw [hy k hk2, List.getElem?_reverse hk2]
        by_cases c3 : k < i ∨ xs.length - 1 - i < k
        · rw [if_pos c3]
        · rw [if_neg c3]
          congr 1; omega
      · rw [List.getElem?_eq_none (by omega), List.getElem?_eq_none (by simp; omega)]
    rw [this]
end Go.Proofs.YtiaeckidlmoohaaGreat
end

section
set_option linter.unusedVariables false
set_option linter.unusedSimpArgs false
set_option maxHeartbeats 8000000
set_option maxRecDepth 20000
namespace Go.Proofs.YtiaeckidlmoohaaGreat
open Go.Proofs.YtiaeckidlmoohaaGreat.PM

theorem natT_some {f : Nat} {nl : Nl} {sz : Nat} {x : PV} {xs : List PV} : natT f [.list nl sz (x :: xs)] = none := rfl
theorem tc_natS {α : Type} [Enc α] {f : Nat} {nl : Nl} {xs : List α} (hf : f ≠ 20) (h : xs ≠ []) : tc.nat f [lst nl xs] = none := by
  have h1 : memo LK f [lst nl xs] = none := by
    simp only [LK, memo]
    rw [if_neg (fun e => hf e.symm)]
  show (match memo LK f [lst nl xs] with | some r => some r | none => natT f [lst nl xs]) = none
  rw [h1]
  obtain ⟨y, ys, hy⟩ : ∃ y ys, cl xs = y :: ys := by
    cases c : cl xs with
    | nil => exact absurd (cl_eq_nil.1 c) h
    | cons y ys => exact ⟨y, ys, rfl⟩
  simp only [lst, hy]
  rfl
theorem tc_natOS {α : Type} [Enc α] {f : Nat} {nl : Nl} {xs : List α} {H : Hp} (h : xs ≠ []) : tc.natO f [lst nl xs] H = none := by
  obtain ⟨y, ys, hy⟩ : ∃ y ys, cl xs = y :: ys := by
    cases c : cl xs with
    | nil => exact absurd (cl_eq_nil.1 c) h
    | cons y ys => exact ⟨y, ys, rfl⟩
  show natOT f [lst nl xs] H = none
  simp only [lst, hy]
  rfl
theorem evApp_ex_lst {α : Type} [Enc α] {nl : Nl} {ys : List α} {H : Hp} {e s bytes : Nat} (hs : s = Enc.sz α) (hy : ys ≠ []) (hsz : ys.length * bytes ≤ 140737488355328) : evApp e s bytes (.list .ex (Enc.sz α) []) (lst nl ys) H = some (mls α H.length 1 ys.length, H ++ [bk e 1 ys]) := by
  have hx := srcOf_lst (nl := nl) (xs := ys) (H := H) s
  rw [if_pos hs] at hx
  have := evApp_lst (α := α) (nl := .ex) (xs := []) (e := e) (bytes := bytes) (H := H) hs (.inr rfl) hx hy (by simpa using hsz)
  simpa [lst] using this
theorem eqNil_lst {α : Type} [Enc α] {nl : Nl} {xs : List α} (hn : nl ≠ .nil) (h : xs ≠ []) (neg : Bool) (sz : Nat) : evEqNil neg (lst nl xs) (.list .nil sz []) = some (.bool neg) := by
  obtain ⟨y, ys, hy⟩ : ∃ y ys, cl xs = y :: ys := by
    cases c : cl xs with
    | nil => exact absurd (cl_eq_nil.1 c) h
    | cons y ys => exact ⟨y, ys, rfl⟩
  simp only [lst, hy]
  cases nl
  · exact absurd rfl hn
  all_goals cases neg <;> rfl
/-- A copy of spots, with the caller's heap. -/
theorem cloneS_ok {nl : Nl} {xs : List So} {H : Hp} (hn : nl ≠ .nil) (h : xs ≠ []) (hb : xs.length ≤ 100000) : RO tc 78 [lst nl xs] H = some (mls So H.length 1 xs.length, H ++ [bk 54 1 xs]) := by
  refine RO_of_G (F := pf78) (tc_natOS h) rfl rfl ?_
  have hE := eqNil_lst hn h
  have hr0 : ∀ z, rep 0 z = [] := fun _ => by simp [rep]
  have hA := evApp_ex_lst (nl := nl) (H := H) (e := 54) (s := 3) (bytes := 24) rfl h (by omega)
  simp only [sz_so] at hA
  simp (disch := first | omega | with_unfolding_all rfl) [pf78, env0_eq, h, -evEqNil, hE, hr0, hA]
theorem cloneS0_ok {nl : Nl} {H : Hp} : RO tc 78 [lst nl ([] : List So)] H = some (lst .ex ([] : List So), H) := by
  have : tc.natO 78 [lst nl ([] : List So)] H = some (lst .ex ([] : List So), H) := rfl
  unfold RO callO
  rw [this]
/-- A copy of spots, by value. -/
theorem cloneP_ok {nl : Nl} (xs : List So) (hn : nl = .nil → xs = []) (hb : xs.length ≤ 100000) : R tc 78 [lst nl xs] = some (lst .any xs) := by
  by_cases h : xs = []
  · subst h
    have : tc.nat 78 [lst nl ([] : List So)] = some (lst .any ([] : List So)) := rfl
    unfold R callP
    rw [this]
  · refine R_of_G (F := pf78) (tc_natS (by decide) h) rfl rfl ?_
    have hE := eqNil_lst (nl := nl) (fun e => h (hn e)) h
    have hr0 : ∀ z, rep 0 z = [] := fun _ => by simp [rep]
    have hA := evApp_ex_lst (nl := nl) (H := []) (e := 54) (s := 3) (bytes := 24) rfl h (by omega)
    simp only [sz_so] at hA
    simp (disch := first | omega | with_unfolding_all rfl) [pf78, env0_eq, h, -evEqNil, hE, hr0, hA]
/-- A train's way, by the program. -/
theorem whole_ok (t : Tr) (hn : t.n1 = .nil → t.s = []) (h0 : t.s = [] → t.a = []) (h1 : t.s.length ≤ 2000) (h2 : t.a.length ≤ 2000) : ∃ nl, (nl = .ex ∨ nl = .any) ∧ R tc 59 [vTr t] = some (lst nl (wy t)) := by
  obtain ⟨n, v, d, n1, s, n2, a⟩ := t
  dsimp only at hn h0 h1 h2
  by_cases hs : s = []
  · have ha := h0 hs
    subst hs ha
    refine ⟨.ex, .inl rfl, ?_⟩
    refine R_of_G (F := pf59) (tc_nat _ rfl) rfl rfl ?_
    have hc := fun H : Hp => cloneS0_ok (nl := n1) (H := H)
    have hr : RO tc 109 [lst .ex ([] : List So)] [] = some (.tup [], []) := by
      refine RO_of_G (F := pf109) (tc_natO _ _ rfl) rfl rfl ?_
      simp (disch := first | omega | with_unfolding_all rfl) [pf109, env0_eq]
      refine G_loopK [0] (fun (i : Nat) e' h => get e' 2 = .int .i64 0 ∧ get e' 3 = .int .i64 (-1) ∧ h = []) (fun i => 0) (a₀ := 0) ⟨by simp, by simp, rfl⟩ ?_
      rintro i e' h hk ⟨g2, g3, rfl⟩
      simp at hk
      simp (disch := first | omega | with_unfolding_all rfl) [hk, g2, g3]
    have hA : ∀ H : Hp, evApp 54 3 24 (lst .ex ([] : List So)) (lst n2 ([] : List So)) H = some (lst .ex ([] : List So), H) := fun H => by
      have hx := srcOf_lst (nl := n2) (xs := ([] : List So)) (H := H) 3
      rw [sz_so, if_pos rfl] at hx
      exact evApp_nil hx
    simp (disch := first | omega | with_unfolding_all rfl) [pf59, env0_eq, hc, hr, hA, wy]
  · refine ⟨.any, .inr rfl, ?_⟩
    refine R_of_G (F := pf59) (tc_nat _ rfl) rfl rfl ?_
    have hc := fun H : Hp => cloneS_ok (nl := n1) (xs := s) (H := H) (fun e => hs (hn e)) hs (by omega)
    have hr := reverse_ok (xs := s) (b := 0) (e := 54) (g := 1) (H := [bk 54 1 s]) rfl (by omega)
    simp (disch := first | omega | with_unfolding_all rfl) [pf59, env0_eq, hc, hr]
    have hrl : s.reverse.length = s.length := by simp
    by_cases ha : a = []
    · subst ha
      simp (disch := first | omega | with_unfolding_all rfl) [wy]
    · have hal : (s.reverse ++ a).length = s.length + a.length := by simp
      simp (disch := first | omega | with_unfolding_all rfl) [ha, wy]
end Go.Proofs.YtiaeckidlmoohaaGreat
end
