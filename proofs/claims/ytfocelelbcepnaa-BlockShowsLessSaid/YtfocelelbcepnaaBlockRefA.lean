/- Several texts in one: BlockRef, BlockFlood. -/
import Derived.Test.YtfocelelbcepnaaBlockPartA
section
set_option linter.unusedVariables false
set_option linter.unusedSimpArgs false
set_option maxHeartbeats 4000000
set_option maxRecDepth 20000
namespace Go.Proofs.Ytfocelelbcepnaa
open Go.Proofs.Ytfocelelbcepnaa.PM

theorem touch_ok {p q : Int} (hp : 0 ≤ p ∧ p < 6) (hq : 0 ≤ q ∧ q < 6) : R tb 86 [.int .i64 p, .int .i64 q] = some (.bool (decide (p ≠ q) && !prt p q)) := by
  refine R_of_G (F := pf86) rfl rfl rfl ?_
  simp (disch := first | omega | with_unfolding_all rfl) [pf86, env0_eq]
  by_cases a1 : p = q
  · subst a1
    simp (disch := first | omega | with_unfolding_all rfl)
  by_cases a4 : p < 2
  · have a4' : ¬ 2 ≤ p := by omega
    by_cases a2 : p + q = 6 <;> by_cases a3 : p + q = 8 <;> simp (disch := first | omega | with_unfolding_all rfl) [a1, a2, a3, a4, a4', prt]
  by_cases a5 : q < 2
  · have a5' : ¬ 2 ≤ q := by omega
    by_cases a2 : p + q = 6 <;> by_cases a3 : p + q = 8 <;> simp (disch := first | omega | with_unfolding_all rfl) [a1, a2, a3, a4, a5, a5', prt]
  have a4' : 2 ≤ p := by omega
  have a5' : 2 ≤ q := by omega
  by_cases a2 : p + q = 6
  · have : p - q = 2 ∨ q - p = 2 := by omega
    rcases this with h | h <;> simp (disch := first | omega | with_unfolding_all rfl) [a1, a2, a4, a5, a4', a5', prt, h]
  by_cases a3 : p + q = 8
  · have : p - q = 2 ∨ q - p = 2 := by omega
    rcases this with h | h <;> simp (disch := first | omega | with_unfolding_all rfl) [a1, a2, a3, a4, a5, a4', a5', prt, h]
  have b1 : ¬ p - q = 2 := by omega
  have b2 : ¬ q - p = 2 := by omega
  simp (disch := first | omega | with_unfolding_all rfl) [a1, a2, a3, a4, a5, a4', a5', prt, b1, b2]
/-- The tile beyond a side. -/
def bey (W H t : Nat) (s : Int) : Int :=
  if s = 0 then (if t % W + 1 < W then (t : Int) + 1 else -1) else if s = 1 then (if t / W + 1 < H then (t : Int) + W else -1) else
  if s = 2 then (if 1 ≤ t % W then (t : Int) - 1 else -1) else if s = 3 then (if 1 ≤ t / W then (t : Int) - W else -1) else t
theorem bey_ok {W H t : Nat} {s : Int} (hW : 4 ≤ W ∧ W ≤ 32) (hH : 4 ≤ H ∧ H ≤ 32) (ht : t < W * H) : R tb 87 [.int .i64 W, .int .i64 H, .int .i64 t, .int .i64 s] = some (.int .i64 (bey W H t s)) := by
  have tm : (t : Int).tmod (W : Int) = ((t % W : Nat) : Int) := rfl
  have td : (t : Int).tdiv (W : Int) = ((t / W : Nat) : Int) := rfl
  obtain ⟨a, ha⟩ : ∃ a, a = t % W := ⟨_, rfl⟩
  obtain ⟨b, hb⟩ : ∃ b, b = t / W := ⟨_, rfl⟩
  rw [← ha] at tm
  rw [← hb] at td
  have hal : a < W := by rw [ha]; exact Nat.mod_lt _ (by omega)
  have hbl : b < H := by rw [hb, Nat.div_lt_iff_lt_mul (by omega), Nat.mul_comm]; exact ht
  have hM : W * H ≤ 32 * 32 := Nat.mul_le_mul hW.2 hH.2
  obtain ⟨c, hc⟩ : ∃ c : Nat, c = b * W := ⟨_, rfl⟩
  have hdm : t = c + a := by have := Nat.div_add_mod t W; rw [← ha, ← hb, Nat.mul_comm] at this; omega
  have c0 : (b : Int) * (W : Int) = (c : Int) := by rw [hc]; push_cast; rfl
  have c1 : ((b : Int) + 1) * (W : Int) = (c : Int) + W := by rw [Int.add_mul, c0]; omega
  have c2 : ((b : Int) - 1) * (W : Int) = (c : Int) - W := by rw [Int.sub_mul, c0]; omega
  have hW0 : ¬ W = 0 := by omega
  have hcW : 1 ≤ b → W ≤ c := fun h => by rw [hc]; exact Nat.le_mul_of_pos_left W h
  have r1 : ¬ (a : Int) < 0 := by omega
  have r2 : ¬ (W : Int) ≤ a := by omega
  have r3 : ¬ (b : Int) < 0 := by omega
  have r4 : ¬ (H : Int) ≤ b := by omega
  refine R_of_G (F := pf87) rfl rfl rfl ?_
  simp (disch := first | omega | with_unfolding_all rfl) [pf87, env0_eq, tm, td, hW0, bey, ← ha, ← hb]
  by_cases s0 : s = 0
  · subst s0
    have r5 : ¬ ((a : Int) + 1 < 0) := by omega
    by_cases g : a + 1 < W
    · have g' : ¬ (W : Int) ≤ (a : Int) + 1 := by omega
      simp (disch := first | omega | with_unfolding_all rfl) [tm, td, hW0, g, g', r1, r2, r3, r4, r5, c0]
      omega
    · have g' : (W : Int) ≤ (a : Int) + 1 := by omega
      simp (disch := first | omega | with_unfolding_all rfl) [tm, td, hW0, g, g', r1, r2, r3, r4, r5, c0]
  by_cases s1 : s = 1
  · subst s1
    have r5 : ¬ ((b : Int) + 1 < 0) := by omega
    by_cases g : b + 1 < H
    · have g' : ¬ (H : Int) ≤ (b : Int) + 1 := by omega
      simp (disch := first | omega | with_unfolding_all rfl) [tm, td, hW0, g, g', r1, r2, r3, r4, r5, c1]
      omega
    · have g' : (H : Int) ≤ (b : Int) + 1 := by omega
      simp (disch := first | omega | with_unfolding_all rfl) [tm, td, hW0, g, g', r1, r2, r3, r4, r5, c1]
  by_cases s2 : s = 2
  · subst s2
    have r5 : ¬ ((W : Int) ≤ (a : Int) - 1) := by omega
    by_cases g : 1 ≤ a
    · have g' : ¬ (a : Int) - 1 < 0 := by omega
      simp (disch := first | omega | with_unfolding_all rfl) [tm, td, hW0, g, g', r1, r2, r3, r4, r5, c0]
      omega
    · have g' : (a : Int) - 1 < 0 := by omega
      simp (disch := first | omega | with_unfolding_all rfl) [tm, td, hW0, g, g', r1, r2, r3, r4, r5, c0]
  by_cases s3 : s = 3
  · subst s3
    have r5 : ¬ ((H : Int) ≤ (b : Int) - 1) := by omega
    by_cases g : 1 ≤ b
    · have g' : ¬ (b : Int) - 1 < 0 := by omega
      simp (disch := first | omega | with_unfolding_all rfl) [tm, td, hW0, g, g', r1, r2, r3, r4, r5, c2]
      omega
    · have g' : (b : Int) - 1 < 0 := by omega
      simp (disch := first | omega | with_unfolding_all rfl) [tm, td, hW0, g, g', r1, r2, r3, r4, r5, c2]
  · simp (disch := first | omega | with_unfolding_all rfl) [tm, td, hW0, s0, s1, s2, s3, r1, r2, r3, r4, c0]
    omega
end Go.Proofs.Ytfocelelbcepnaa
end

section
set_option linter.unusedVariables false
set_option linter.unusedSimpArgs false
set_option maxHeartbeats 4000000
set_option maxRecDepth 20000
namespace Go.Proofs.Ytfocelelbcepnaa
open Go.Proofs.Ytfocelelbcepnaa.PM

theorem exNum (E : Nat → Nat → Prop) : ∀ i, ∃ m, IsNum E i m := by
  intro i
  induction i using Nat.strongRecOn with
  | _ i ih =>
    by_cases h : ∃ k, k < i ∧ Cn E i k
    · obtain ⟨k, hk, hc⟩ := h
      obtain ⟨m, h1, h2⟩ := ih k hk
      exact ⟨m, hc.trans h1, fun j hj => h2 j (hc.symm.trans hj)⟩
    · exact ⟨i, .refl i, fun k hk => Nat.le_of_not_lt fun q => h ⟨k, q, hk⟩⟩
theorem IsNum.of_cn {E : Nat → Nat → Prop} {i j m : Nat} (h : IsNum E i m) (c : Cn E i j) : IsNum E j m := ⟨c.symm.trans h.1, fun k hk => h.2 k (c.trans hk)⟩
/-- Six pieces a tile, eight numbers a tile. -/
def to8 (k : Nat) : Nat := 8 * (k / 6) + k % 6
theorem to8_inj {a b : Nat} (h : to8 a = to8 b) : a = b := by unfold to8 at h; omega
theorem to8_lt {a b : Nat} : to8 a < to8 b ↔ a < b := by unfold to8; omega
def lie6 (r : Rl) (k : Nat) : Bool := lie r ((k : Int) / 6) ((k : Int) % 6)
/-- Pieces that are near. -/
def NrT (r : Rl) (k Q x : Nat) : Prop := ∃ q : Nat, q < Q ∧ q < 6 ∧ k % 6 ≠ q ∧ prt ((k : Int) % 6) q = false ∧ lie r ((k : Int) / 6) q = true ∧ x = k / 6 * 6 + q
def NrQ (r : Rl) (ls : List Sg) (W H k : Nat) (s : Int) (Q x : Nat) : Prop := has ((k : Int) % 6) s = true ∧ sgn ls ((k : Int) / 6) ((k : Int) % 6) s = false ∧
  ∃ u : Nat, bey W H (k / 6) s = (u : Int) ∧ ∃ q : Nat, q < Q ∧ q < 6 ∧ lie r u q = true ∧ has q ((s + 2).tmod 4) = true ∧ sgn ls u q ((s + 2).tmod 4) = false ∧ x = u * 6 + q
def NrS (r : Rl) (ls : List Sg) (W H k S x : Nat) : Prop := ∃ s : Nat, s < S ∧ s < 4 ∧ NrQ r ls W H k s 6 x
def Nr (r : Rl) (ls : List Sg) (W H k x : Nat) : Prop := NrT r k 6 x ∨ NrS r ls W H k 4 x

theorem prt_comm (p q : Int) : prt p q = prt q p := by
  unfold prt
  by_cases a : 2 ≤ p <;> by_cases b : 2 ≤ q <;> simp [a, b, Bool.or_comm]
theorem lie_lt {r : Rl} {t p : Int} (h : lie r t p = true) : 0 ≤ t ∧ t < r.w * r.h ∧ 0 ≤ p ∧ p < 6 := by
  unfold lie at h
  simp at h
  omega
section
variable {r : Rl} {ls : List Sg} {W H M : Nat}
theorem nr_edge (hW : r.w = W) (hH : r.h = H) (hM : M = W * H) (hW0 : 4 ≤ W) {k x : Nat} (hl : lie6 r k = true) (h : Nr r ls W H k x) : x < 6 * M ∧ lie6 r x = true ∧ (EE r ls (to8 k) (to8 x) ∨ EE r ls (to8 x) (to8 k)) := by
  have hWH : r.w * r.h = (M : Int) := by rw [hW, hH, hM]; push_cast; rfl
  have hT : (r.w * r.h).toNat = M := by rw [hWH]; rfl
  have hk := lie_lt hl
  rw [hWH] at hk
  have hW1 : r.w.toNat = W := by rw [hW]; rfl
  have kd : ((k : Int) / 6) = ((k / 6 : Nat) : Int) := by omega
  have km : ((k : Int) % 6) = ((k % 6 : Nat) : Int) := by omega
  unfold lie6 at hl
  rcases h with ⟨q, _, hq, hne, hp, hlq, rfl⟩ | ⟨s, _, hs, hhas, hsg, u, hu, q, _, hq, hlq, hhq, hsq, rfl⟩
  · have xd : ((k / 6 * 6 + q : Nat) : Int) / 6 = (k : Int) / 6 := by omega
    have xm : ((k / 6 * 6 + q : Nat) : Int) % 6 = (q : Int) := by omega
    refine ⟨by omega, by unfold lie6; rw [xd, xm]; exact hlq, ?_⟩
    have te : ∀ a b : Nat, b < a → a < 6 → lie r ((k : Int) / 6) a = true → lie r ((k : Int) / 6) b = true → prt a b = false → EE r ls (8 * (k / 6) + a) (8 * (k / 6) + b) := by
      intro a b h1 h2 h3 h4 h5
      exact ⟨k / 6, by rw [hT]; omega, .inl ⟨a, b, by omega, h1, h2, by rw [← kd]; exact h3, by rw [← kd]; exact h4, h5, rfl, rfl⟩⟩
    have e1 : to8 k = 8 * (k / 6) + k % 6 := rfl
    have e2 : to8 (k / 6 * 6 + q) = 8 * (k / 6) + q := by unfold to8; omega
    rw [e1, e2]
    rw [km] at hl hp
    rcases Nat.lt_or_gt_of_ne hne with c | c
    · exact .inr (te q (k % 6) c hq hlq hl (by rw [prt_comm]; exact hp))
    · exact .inl (te (k % 6) q c (by omega) hl hlq hp)
  · have hlu := lie_lt hlq
    rw [hWH] at hlu
    have xd : ((u * 6 + q : Nat) : Int) / 6 = (u : Int) := by omega
    have xm : ((u * 6 + q : Nat) : Int) % 6 = (q : Int) := by omega
    refine ⟨by omega, by unfold lie6; rw [xd, xm]; exact hlq, ?_⟩
    have e1 : to8 k = 8 * (k / 6) + k % 6 := rfl
    have e2 : to8 (u * 6 + q) = 8 * u + q := by unfold to8; omega
    rw [e1, e2]
    obtain ⟨t, ht⟩ : ∃ t, t = k / 6 := ⟨_, rfl⟩
    obtain ⟨p, hp⟩ : ∃ p, p = k % 6 := ⟨_, rfl⟩
    rw [kd, km, ← ht, ← hp] at hl hsg
    rw [km, ← hp] at hhas
    rw [← ht] at hu
    rw [← ht, ← hp]
    have hp6 : p < 6 := by omega
    have htM : t < M := by omega
    have q1 : ∀ t' : Nat, ((t' : Int).tmod r.w < r.w - 1 ↔ t' % W + 1 < W) := fun t' => by
      rw [hW, tmod_nat]; omega
    have q2 : ∀ t' : Nat, ((t' : Int).tdiv r.w < r.h - 1 ↔ t' / W + 1 < H) := fun t' => by
      rw [hW, hH, tdiv_nat]; generalize t' / W = z; omega
    have hs4 : s = 0 ∨ s = 1 ∨ s = 2 ∨ s = 3 := by omega
    rcases hs4 with rfl | rfl | rfl | rfl
    · -- to the right
      left
      have hu' : t % W + 1 < W ∧ u = t + 1 := by
        simp [bey] at hu
        split at hu <;> omega
      obtain ⟨c1, rfl⟩ := hu'
      exact ⟨t, by omega, .inr (.inl ⟨(q1 t).2 c1, p, q, by omega, hp6, hq, hl, hhas, hsg, hlq, hhq, hsq, rfl, rfl⟩)⟩
    · left
      have hu' : t / W + 1 < H ∧ u = t + W := by
        simp [bey] at hu
        split at hu <;> omega
      obtain ⟨c1, rfl⟩ := hu'
      exact ⟨t, by omega, .inr (.inr ⟨(q2 t).2 c1, p, q, by omega, hp6, hq, hl, hhas, hsg, by rw [hW1]; exact hlq, hhq, by rw [hW1]; exact hsq, rfl, by rw [hW1]⟩)⟩
    · right
      have hu' : 1 ≤ t % W ∧ u + 1 = t := by
        simp [bey] at hu
        split at hu <;> omega
      obtain ⟨c1, rfl⟩ := hu'
      have c2 : u % W + 1 < W := by
        have hlt := Nat.mod_lt (u + 1) (show 0 < W by omega)
        have h5 : (u + 1) % W = (u % W + 1) % W := by rw [Nat.mod_add_mod]
        by_cases e : u % W + 1 < W
        · exact e
        · have hlt2 := Nat.mod_lt u (show 0 < W by omega)
          have : u % W + 1 = W := by omega
          rw [this, Nat.mod_self] at h5
          omega
      exact ⟨u, by omega, .inr (.inl ⟨(q1 u).2 c2, q, p, by omega, hq, hp6, hlq, hhq, hsq, hl, hhas, hsg, rfl, rfl⟩)⟩
    · right
      have hu' : 1 ≤ t / W ∧ u + W = t := by
        simp [bey] at hu
        split at hu
        · rename_i c
          refine ⟨c, ?_⟩
          omega
        · omega
      obtain ⟨c1, rfl⟩ := hu'
      have c2 : u / W + 1 < H := by
        rw [← Nat.add_div_right _ (show 0 < W by omega), Nat.div_lt_iff_lt_mul (by omega), Nat.mul_comm, ← hM]
        exact htM
      exact ⟨u, by omega, .inr (.inr ⟨(q2 u).2 c2, q, p, by omega, hq, hp6, hlq, hhq, hsq, by rw [hW1]; exact hl, hhas, by rw [hW1]; exact hsg, rfl, by rw [hW1]⟩)⟩
theorem edge_nr (hW : r.w = W) (hH : r.h = H) (hM : M = W * H) (hW0 : 4 ≤ W) {k y : Nat} (h : EE r ls (to8 k) y ∨ EE r ls y (to8 k)) : ∃ x, Nr r ls W H k x ∧ y = to8 x := by
  have hWH : r.w * r.h = (M : Int) := by rw [hW, hH, hM]; push_cast; rfl
  have hT : (r.w * r.h).toNat = M := by rw [hWH]; rfl
  have hW1 : r.w.toNat = W := by rw [hW]; rfl
  have kd : ((k : Int) / 6) = ((k / 6 : Nat) : Int) := by omega
  have km : ((k : Int) % 6) = ((k % 6 : Nat) : Int) := by omega
  have q1 : ∀ t' : Nat, ((t' : Int).tmod r.w < r.w - 1 ↔ t' % W + 1 < W) := fun t' => by
    rw [hW, tmod_nat]; omega
  have q2 : ∀ t' : Nat, ((t' : Int).tdiv r.w < r.h - 1 ↔ t' / W + 1 < H) := fun t' => by
    rw [hW, hH, tdiv_nat]; generalize t' / W = z; omega
  rcases h with ⟨t, ht, h⟩ | ⟨t, ht, h⟩
  · rcases h with ⟨p, q, _, hqp, hp6, hl, hlq, hpr, e1, rfl⟩ | ⟨c, p, q, _, hp6, hq6, hl, hh, hs, hlq, hhq, hsq, e1, rfl⟩ | ⟨c, p, q, _, hp6, hq6, hl, hh, hs, hlq, hhq, hsq, e1, rfl⟩
    · obtain ⟨rfl, rfl⟩ : k / 6 = t ∧ k % 6 = p := by unfold to8 at e1; omega
      exact ⟨k / 6 * 6 + q, .inl ⟨q, by omega, by omega, by omega, by rw [km]; exact hpr, by rw [kd]; exact hlq, rfl⟩, by unfold to8; omega⟩
    · obtain ⟨rfl, rfl⟩ : k / 6 = t ∧ k % 6 = p := by unfold to8 at e1; omega
      refine ⟨(k / 6 + 1) * 6 + q, .inr ⟨0, by omega, by omega, by rw [km]; exact hh, by rw [kd, km]; exact hs, k / 6 + 1, ?_, q, by omega, hq6, hlq, hhq, hsq, rfl⟩, by unfold to8; omega⟩
      simp [bey, (q1 _).1 c]
    · obtain ⟨rfl, rfl⟩ : k / 6 = t ∧ k % 6 = p := by unfold to8 at e1; omega
      rw [hW1] at hlq hsq ⊢
      refine ⟨(k / 6 + W) * 6 + q, .inr ⟨1, by omega, by omega, by rw [km]; exact hh, by rw [kd, km]; exact hs, k / 6 + W, ?_, q, by omega, hq6, hlq, hhq, hsq, rfl⟩, by unfold to8; omega⟩
      simp [bey, (q2 _).1 c]
  · rcases h with ⟨p, q, _, hqp, hp6, hl, hlq, hpr, rfl, e1⟩ | ⟨c, p, q, _, hp6, hq6, hl, hh, hs, hlq, hhq, hsq, rfl, e1⟩ | ⟨c, p, q, _, hp6, hq6, hl, hh, hs, hlq, hhq, hsq, rfl, e1⟩
    · obtain ⟨rfl, rfl⟩ : k / 6 = t ∧ k % 6 = q := by unfold to8 at e1; omega
      exact ⟨k / 6 * 6 + p, .inl ⟨p, by omega, by omega, by omega, by rw [km, prt_comm]; exact hpr, by rw [kd]; exact hl, rfl⟩, by unfold to8; omega⟩
    · obtain ⟨hk6, rfl⟩ : k / 6 = t + 1 ∧ k % 6 = q := by unfold to8 at e1; omega
      rw [← hk6] at hlq hsq
      refine ⟨t * 6 + p, .inr ⟨2, by omega, by omega, by rw [km]; exact hhq, by rw [kd, km]; exact hsq, t, ?_, p, by omega, hp6, hl, hh, hs, rfl⟩, by unfold to8; omega⟩
      have c2 : 1 ≤ (t + 1) % W := by
        have := (q1 _).1 c
        have h5 : (t + 1) % W = t % W + 1 := by
          rw [Nat.add_mod, Nat.mod_eq_of_lt (show 1 < W by omega), Nat.mod_eq_of_lt this]
        omega
      rw [hk6]
      simp [bey, c2]
    · rw [hW1] at hlq hsq e1
      obtain ⟨hk6, rfl⟩ : k / 6 = t + W ∧ k % 6 = q := by unfold to8 at e1; omega
      rw [← hk6] at hlq hsq
      refine ⟨t * 6 + p, .inr ⟨3, by omega, by omega, by rw [km]; exact hhq, by rw [kd, km]; exact hsq, t, ?_, p, by omega, hp6, hl, hh, hs, rfl⟩, by unfold to8; omega⟩
      have c2 : 1 ≤ (t + W) / W := by rw [Nat.add_div_right _ (by omega)]; exact Nat.le_add_left _ _
      rw [hk6]
      simp [bey, c2]
theorem cn_lies (hW : r.w = W) (hH : r.h = H) (hM : M = W * H) (hW0 : 4 ≤ W) {k y : Nat} (hk : k < 6 * M) (hl : lie6 r k = true) (h : Cn (EE r ls) (to8 k) y) : ∃ x, x < 6 * M ∧ lie6 r x = true ∧ y = to8 x := by
  induction h with
  | refl => exact ⟨k, hk, hl, rfl⟩
  | step _ e ih =>
    obtain ⟨x, hx, hlx, rfl⟩ := ih
    obtain ⟨z, hz, rfl⟩ := edge_nr hW hH hM hW0 e
    obtain ⟨h1, h2, _⟩ := nr_edge hW hH hM hW0 hlx hz
    exact ⟨z, h1, h2, rfl⟩
structure Oinv (r : Rl) (ls : List Sg) (M i : Nat) (out : List Int) : Prop where
  len : out.length = 6 * M
  off : ∀ j, j < 6 * M → lie6 r j = false → out[j]? = some (-1)
  on : ∀ j, j < 6 * M → lie6 r j = true → ∃ m, IsNum (EE r ls) (to8 j) m ∧ out[j]? = some (if m < to8 i then (m : Int) else -1)
theorem Oinv.skip (hW : r.w = W) (hH : r.h = H) (hM : M = W * H) (hW0 : 4 ≤ W) {i : Nat} {out : List Int} (h : Oinv r ls M i out) (hs : lie6 r i = false ∨ ∃ v : Int, out[i]? = some v ∧ 0 ≤ v) : Oinv r ls M (i + 1) out := by
  refine ⟨h.len, h.off, fun j hj hl => ?_⟩
  obtain ⟨m, h1, h2⟩ := h.on j hj hl
  refine ⟨m, h1, ?_⟩
  have : m < to8 i ↔ m < to8 (i + 1) := by
    constructor
    · intro q
      have := (to8_lt (a := i) (b := i + 1)).2 (by omega)
      omega
    · intro q
      apply Nat.lt_of_not_le
      intro q2
      obtain ⟨x, hx, hlx, rfl⟩ := cn_lies hW hH hM hW0 hj hl h1.1
      have e1 : ¬ x < i := fun c => by have := to8_lt.2 c; omega
      have e2 : x < i + 1 := to8_lt.1 q
      obtain rfl : x = i := by omega
      rcases hs with hs | ⟨v, hv, h0⟩
      · rw [hs] at hlx; cases hlx
      · obtain ⟨m', g1, g2⟩ := h.on x hx hlx
        have : m' = to8 x := g1.uniq (h1.of_cn h1.1)
        rw [this, if_neg (by omega), hv, Option.some.injEq] at g2
        omega
  rw [h2]
  by_cases c : m < to8 i
  · rw [if_pos c, if_pos (this.1 c)]
  · rw [if_neg c, if_neg (fun q => c (this.2 q))]
structure Fl (r : Rl) (ls : List Sg) (W H M i : Nat) (out0 out : List Int) (pend : Nat → Prop) : Prop where
  len : out.length = 6 * M
  cell : ∀ j, j < 6 * M → out[j]? = out0[j]? ∨ (out[j]? = some (to8 i : Int) ∧ lie6 r j = true ∧ Cn (EE r ls) (to8 i) (to8 j))
  pin : ∀ k, pend k → k < 6 * M ∧ out[k]? = some (to8 i : Int)
  closed : ∀ j, j < 6 * M → out[j]? = some (to8 i : Int) → pend j ∨ ∀ x, Nr r ls W H j x → ∃ v : Int, out[x]? = some v ∧ 0 ≤ v
  own : out[i]? = some (to8 i : Int)
theorem Oinv.cell {i j : Nat} {out : List Int} (h : Oinv r ls M i out) (hj : j < 6 * M) : out[j]? = some (-1) ∨ ∃ m : Nat, m < to8 i ∧ out[j]? = some (m : Int) ∧ lie6 r j = true ∧ IsNum (EE r ls) (to8 j) m := by
  cases c : lie6 r j
  · exact .inl (h.off j hj c)
  · obtain ⟨m, h1, h2⟩ := h.on j hj c
    split at h2
    · rename_i q; exact .inr ⟨m, q, h2, rfl, h1⟩
    · exact .inl h2
theorem Oinv.own {i : Nat} {out : List Int} (h : Oinv r ls M i out) (hi : i < 6 * M) (hl : lie6 r i = true) (hv : ¬ ∃ v : Int, out[i]? = some v ∧ 0 ≤ v) : IsNum (EE r ls) (to8 i) (to8 i) := by
  obtain ⟨m, h1, h2⟩ := h.on i hi hl
  have : m ≤ to8 i := h1.2 _ (.refl _)
  by_cases c : m < to8 i
  · rw [if_pos c] at h2
    exact absurd ⟨_, h2, by omega⟩ hv
  · obtain rfl : m = to8 i := by omega
    exact h1
theorem Fl.start {i : Nat} {out : List Int} (h : Oinv r ls M i out) (hi : i < 6 * M) (hl : lie6 r i = true) : Fl r ls W H M i out (out.set i (to8 i : Int)) (fun j => j = i) := by
  have hlen := h.len
  refine ⟨by simp [hlen], fun j hj => ?_, fun k hk => ?_, fun j hj hv => ?_, List.getElem?_set_self (by omega)⟩
  · by_cases e : i = j
    · subst e; exact .inr ⟨List.getElem?_set_self (by omega), hl, .refl _⟩
    · exact .inl (List.getElem?_set_ne e)
  · subst hk; exact ⟨hi, List.getElem?_set_self (by omega)⟩
  · by_cases e : i = j
    · exact .inl e.symm
    · rw [List.getElem?_set_ne e] at hv
      rcases h.cell hj with q | ⟨m, q1, q2, _⟩
      · rw [q, Option.some.injEq] at hv; omega
      · rw [q2, Option.some.injEq] at hv; omega
theorem Fl.mark (hW : r.w = W) (hH : r.h = H) (hM : M = W * H) (hW0 : 4 ≤ W) {i : Nat} {out0 out : List Int} {pend : Nat → Prop} (h0 : Oinv r ls M i out0) (h : Fl r ls W H M i out0 out pend) {k x : Nat} (hk : pend k) (hx : Nr r ls W H k x) {v : Int} (hv : out[x]? = some v) (hv0 : v < 0) :
    Fl r ls W H M i out0 (out.set x (to8 i : Int)) (fun j => pend j ∨ j = x) := by
  have hlen := h.len
  obtain ⟨hk6, hko⟩ := h.pin k hk
  have hkc : lie6 r k = true ∧ Cn (EE r ls) (to8 i) (to8 k) := by
    rcases h.cell k hk6 with q | q
    · rw [q] at hko
      rcases h0.cell hk6 with q | ⟨m, q1, q2, _⟩
      · rw [q, Option.some.injEq] at hko; omega
      · rw [q2, Option.some.injEq] at hko; omega
    · exact q.2
  obtain ⟨hx6, hxl, hxe⟩ := nr_edge hW hH hM hW0 hkc.1 hx
  refine ⟨by simp [hlen], fun j hj => ?_, fun k hk => ?_, fun j hj hv => ?_, ?_⟩
  · by_cases e : x = j
    · subst e; exact .inr ⟨List.getElem?_set_self (by omega), hxl, hkc.2.step hxe⟩
    · rw [List.getElem?_set_ne e]; exact h.cell j hj
  · by_cases e : x = k
    · subst e; exact ⟨hx6, List.getElem?_set_self (by omega)⟩
    · rw [List.getElem?_set_ne e]
      exact h.pin k (hk.resolve_right fun q => e q.symm)
  · by_cases e : x = j
    · exact .inl (.inr e.symm)
    · rw [List.getElem?_set_ne e] at hv
      rcases h.closed j hj hv with q | q
      · exact .inl (.inl q)
      · refine .inr fun y hy => ?_
        by_cases e2 : x = y
        · subst e2; exact ⟨_, List.getElem?_set_self (by omega), by omega⟩
        · rw [List.getElem?_set_ne e2]; exact q y hy
  · by_cases e : x = i
    · subst e; exact List.getElem?_set_self (by omega)
    · rw [List.getElem?_set_ne e]; exact h.own
theorem Fl.pend {i : Nat} {out0 out : List Int} {pend pend' : Nat → Prop} (h : Fl r ls W H M i out0 out pend) (h1 : ∀ j, pend' j → pend j) (h2 : ∀ j, pend j → pend' j ∨ ∀ x, Nr r ls W H j x → ∃ v : Int, out[x]? = some v ∧ 0 ≤ v) : Fl r ls W H M i out0 out pend' :=
  ⟨h.len, h.cell, fun k hk => h.pin k (h1 k hk), fun j hj hv => (h.closed j hj hv).elim (h2 j) .inr, h.own⟩
theorem Fl.fin (hW : r.w = W) (hH : r.h = H) (hM : M = W * H) (hW0 : 4 ≤ W) {i : Nat} {out0 out : List Int} (h0 : Oinv r ls M i out0) (hi : IsNum (EE r ls) (to8 i) (to8 i)) (hi6 : i < 6 * M) (hil : lie6 r i = true) (h : Fl r ls W H M i out0 out (fun _ => False)) : Oinv r ls M (i + 1) out := by
  have all : ∀ y, Cn (EE r ls) (to8 i) y → ∃ x, x < 6 * M ∧ y = to8 x ∧ lie6 r x = true ∧ out[x]? = some (to8 i : Int) := by
    intro y hy
    induction hy with
    | refl => exact ⟨i, hi6, rfl, hil, h.own⟩
    | @step j' k' hc e ih =>
      obtain ⟨x, hx, rfl, hlx, hxo⟩ := ih
      obtain ⟨z, hz, rfl⟩ := edge_nr hW hH hM hW0 e
      obtain ⟨h1, h2, h3⟩ := nr_edge hW hH hM hW0 hlx hz
      refine ⟨z, h1, rfl, h2, ?_⟩
      obtain ⟨v, hv, hv0⟩ := ((h.closed x hx hxo).resolve_left id) z hz
      rcases h.cell z h1 with q | q
      · rw [hv] at q
        rcases h0.cell h1 with q' | ⟨m, q1, q2, _, q3⟩
        · rw [q', Option.some.injEq] at q; omega
        · have : m = to8 i := q3.uniq (hi.of_cn (hc.step h3))
          omega
      · exact q.1
  refine ⟨h.len, fun j hj hl => ?_, fun j hj hl => ?_⟩
  · rcases h.cell j hj with q | q
    · rw [q]; exact h0.off j hj hl
    · rw [hl] at q; exact absurd q.2.1 (by decide)
  · obtain ⟨m, h1, h2⟩ := h0.on j hj hl
    refine ⟨m, h1, ?_⟩
    by_cases c : Cn (EE r ls) (to8 i) (to8 j)
    · obtain rfl : m = to8 i := h1.uniq (hi.of_cn c)
      obtain ⟨x, hx, e, _, hxo⟩ := all _ c
      rw [to8_inj e, hxo, if_pos (to8_lt.2 (by omega))]
    · have h3 : out[j]? = out0[j]? := (h.cell j hj).resolve_right fun q => c q.2.2
      rw [h3, h2]
      have : m < to8 i ↔ m < to8 (i + 1) := by
        constructor
        · intro q
          have := (to8_lt (a := i) (b := i + 1)).2 (by omega)
          omega
        · intro q
          apply Nat.lt_of_not_le
          intro q2
          obtain ⟨x, hx, hlx, rfl⟩ := cn_lies hW hH hM hW0 hj hl h1.1
          have e1 : ¬ x < i := fun c => by have := to8_lt.2 c; omega
          have e2 : x < i + 1 := to8_lt.1 q
          obtain rfl : x = i := by omega
          exact c h1.1.symm
      by_cases c : m < to8 i
      · rw [if_pos c, if_pos (this.1 c)]
      · rw [if_neg c, if_neg (fun q => c (this.2 q))]
end
end Go.Proofs.Ytfocelelbcepnaa
end
