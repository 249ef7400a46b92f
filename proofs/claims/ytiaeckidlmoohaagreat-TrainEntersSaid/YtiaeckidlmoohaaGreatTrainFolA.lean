/- Several texts in one: TrainFol, TrainFol2, TrainFol3. -/
import Derived.Test.YtiaeckidlmoohaaGreatTrainWayA
section
set_option linter.unusedVariables false
set_option linter.unusedSimpArgs false
set_option maxHeartbeats 8000000
set_option maxRecDepth 20000
namespace Go.Proofs.YtiaeckidlmoohaaGreat
open Go.Proofs.YtiaeckidlmoohaaGreat.PM
def jts (j : List Jo) (s : So) : List So := (j.filter fun q => decide (q.a = s)).map (·.b)
def sgK (g : List Sg) (s : So) : Option Int := (g.reverse.find? fun q => decide (q.t = s.t ∧ q.p = s.p ∧ q.o = s.o)).map (·.k)
inductive Fd (y : Yd) : PV → Prop
  | mk (ks1 vs1 ks2 vs2 : List PV) (sig : ∀ s : So, mfind ⟨some 3, ks1, vs1⟩ (vSo s) = (sgK y.g s).map fun k => .int .i64 k)
    (jnt : ∀ s : So, mfind ⟨some 3, ks2, vs2⟩ (vSo s) = if jts y.j s = [] then none else some (lst .any (jts y.j s))) :
    Fd y (.agg [.int .i64 y.r.w, .int .i64 y.r.h, lst y.r.n1 y.r.s, lst y.r.n2 y.r.d, lst y.n1 y.g, lst y.n2 y.j, lst y.n3 y.t, .fmap false (some 3) ks1 vs1, .fmap false (some 3) ks2 vs2])
def dX (s : Int) (a : Int) : Int := if s = 0 then a + 1 else if s = 1 then a else if s = 2 then a - 1 else a
def dY (s : Int) (b : Int) : Int := if s = 0 then b else if s = 1 then b + 1 else if s = 2 then b else b - 1
theorem bey_xy {W H t : Nat} {s : Int} (hW : 4 ≤ W) (hH : 4 ≤ H) (ht : t < W * H) (hs : 0 ≤ s ∧ s < 4) :
    (bey W H t s < 0 ↔ dX s (t % W : Nat) < 0 ∨ (W : Int) ≤ dX s (t % W : Nat) ∨ dY s (t / W : Nat) < 0 ∨ (H : Int) ≤ dY s (t / W : Nat)) ∧
    (0 ≤ bey W H t s → dY s (t / W : Nat) * W + dX s (t % W : Nat) = bey W H t s) := by
  obtain ⟨a, ha⟩ : ∃ a, a = t % W := ⟨_, rfl⟩
  obtain ⟨b, hb⟩ : ∃ b, b = t / W := ⟨_, rfl⟩
  have hal : a < W := by rw [ha]; exact Nat.mod_lt _ (by omega)
  have hbl : b < H := by rw [hb, Nat.div_lt_iff_lt_mul (by omega), Nat.mul_comm]; exact ht
  obtain ⟨c, hc⟩ : ∃ c : Nat, c = b * W := ⟨_, rfl⟩
  have hdm : t = c + a := by have := Nat.div_add_mod t W; rw [← ha, ← hb, Nat.mul_comm] at this; omega
  have c0 : (b : Int) * (W : Int) = (c : Int) := by rw [hc]; push_cast; rfl
  have c1 : ((b : Int) + 1) * (W : Int) = (c : Int) + W := by rw [Int.add_mul, c0]; omega
  have c2 : ((b : Int) - 1) * (W : Int) = (c : Int) - W := by rw [Int.sub_mul, c0]; omega
  have hcW : 1 ≤ b → W ≤ c := fun h => by rw [hc]; exact Nat.le_mul_of_pos_left W h
  rw [← ha, ← hb]
  have hs4 : s = 0 ∨ s = 1 ∨ s = 2 ∨ s = 3 := by omega
  rcases hs4 with rfl | rfl | rfl | rfl
  · simp only [bey, dX, dY, ← ha, ← hb, if_true, c0]
    split <;> omega
  · simp [bey, dX, dY, ← ha, ← hb, c1]
    split <;> omega
  · simp [bey, dX, dY, ← ha, ← hb, c0]
    split <;> omega
  · simp [bey, dX, dY, ← ha, ← hb, c2]
    have := hcW
    split <;> omega
theorem nextF_ok {y : Yd} {F : PV} (hF : Fd y F) (g : Good y.r) {s : So} (h1 : has s.p s.o = true) (h2 : lie y.r s.t s.p = true) : R tc 136 [F, vSo s] = some (nxtV y.r s) := by
  obtain ⟨W, H, T, a⟩ := at_of g h1 h2
  have hN := a.nxt
  have hN' := a.nxt'
  obtain ⟨hw, hh, ht, hlt, hln, rg, bw, bh⟩ := a
  have hM : W * H ≤ 32 * 32 := Nat.mul_le_mul bw.2 bh.2
  obtain ⟨ks1, vs1, ks2, vs2, -, -⟩ := hF
  obtain ⟨r, n1, gs, n2, js, n3, ts⟩ := y
  obtain ⟨st, sp, so⟩ := s
  dsimp only at *
  subst ht
  obtain ⟨hb1, hb2⟩ := bey_xy bw.1 bh.1 hlt (s := so) ⟨by omega, by omega⟩
  have hal : T % W < W := Nat.mod_lt _ (by omega)
  have hbl : T / W < H := by rw [Nat.div_lt_iff_lt_mul (by omega), Nat.mul_comm]; exact hlt
  obtain ⟨B, hB⟩ : ∃ B, B = bey W H T so := ⟨_, rfl⟩
  rw [← hB] at hN hN' hb1 hb2
  rw [hN]
  have tm : (T : Int).tmod (W : Int) = ((T % W : Nat) : Int) := rfl
  have td : (T : Int).tdiv (W : Int) = ((T / W : Nat) : Int) := rfl
  generalize hea : T % W = a at *
  generalize heb : T / W = b at *
  have hW0 : ¬ (W : Int) = 0 := by omega
  have hW00 : ¬ W = 0 := by omega
  refine R_of_G (F := pf136) (tc_nat _ rfl) rfl rfl ?_
  simp (disch := first | omega | with_unfolding_all rfl) [pf136, env0_eq, hw, hh, tm, td, hW00]
  refine G_splice2 (fun e' h' => get e' 3 = PV.pptr false [.int .i64 T, .int .i64 sp, .int .i64 so] 0 ∧ get e' 5 = .mptr 0 0 0 ∧ get e' 6 = .int .i64 (dX so a) ∧ get e' 7 = .int .i64 (dY so b) ∧
    h' = [⟨25, 0, [.int .i64 W, .int .i64 H, lst r.n1 r.s, lst r.n2 r.d], none⟩]) ?_ ?_
  · have hs4 : so = 0 ∨ so = 1 ∨ so = 2 ∨ so = 3 := by omega
    rcases hs4 with rfl | rfl | rfl | rfl <;> simp (disch := first | omega | with_unfolding_all rfl) [dX, dY]
  rintro e h ⟨g3, g5, g6, g7, rfl⟩
  generalize hX : dX so a = X at *
  generalize hY : dY so b = Y at *
  simp (disch := first | omega | with_unfolding_all rfl) [g3, g5, g6, g7]
  have hxr : -1 ≤ X ∧ X ≤ W := by rw [← hX]; unfold dX; split <;> (try split) <;> (try split) <;> omega
  have hyr : -1 ≤ Y ∧ Y ≤ H := by rw [← hY]; unfold dY; split <;> (try split) <;> (try split) <;> omega
  by_cases o1 : X < 0
  · have hb : B < 0 := by omega
    simp (disch := first | omega | with_unfolding_all rfl) [g3, g5, g6, g7, o1, hb]
  by_cases o2 : (W : Int) ≤ X
  · have hb : B < 0 := by omega
    simp (disch := first | omega | with_unfolding_all rfl) [g3, g5, g6, g7, o1, o2, hb]
  by_cases o3 : Y < 0
  · have hb : B < 0 := by omega
    simp (disch := first | omega | with_unfolding_all rfl) [g3, g5, g6, g7, o1, o2, o3, hb]
  by_cases o4 : (H : Int) ≤ Y
  · have hb : B < 0 := by omega
    simp (disch := first | omega | with_unfolding_all rfl) [g3, g5, g6, g7, o1, o2, o3, o4, hb]
  have hb : ¬ B < 0 := by omega
  obtain ⟨u, hu⟩ : ∃ u : Nat, B = u := ⟨B.toNat, by omega⟩
  have hYX : Y * W + X = (u : Int) := by rw [hb2 (by omega), hu]
  have huM := bey_lt bw.1 hlt (s := so) (by omega) (hB.symm.trans hu)
  rw [if_neg hb, hu] at hN'
  rw [if_neg hb, hN']
  have hu0 : ((u : Int)).toNat = u := by omega
  rw [hu0]
  obtain ⟨s2, hs2⟩ : ∃ s2, s2 = (so + 2).tmod 4 := ⟨_, rfl⟩
  have hus : u < r.s.length := by omega
  have hgu := ss_get hus
  have hrg := g.rg u hus
  rw [← hs2]
  have hmod : IntKind.i64.wrap (so + 2) = so + 2 := wrapI (by omega) (by omega)
  have hYW : Y * W ≤ 1024 := by
    have : Y * W ≤ H * W := Int.mul_le_mul_of_nonneg_right (by omega) (by omega)
    have h2 : (H : Int) * W = ((W * H : Nat) : Int) := by push_cast; rw [Int.mul_comm]
    omega
  have hYW0 : 0 ≤ Y * W := Int.mul_nonneg (by omega) (by omega)
  simp (disch := first | omega | with_unfolding_all rfl) [g3, g5, g6, g7, o1, o2, o3, o4, hYX, hmod, ← hs2]
  refine G_loopK [5, 8, 9] (fun (Q : Nat) e hh => Q ≤ 6 ∧ get e 71 = .int .i64 (Q : Int) ∧ get e 10 = mls So 1 (nxU r u s2 Q).length (nxU r u s2 Q).length ∧ hh = [⟨25, 0, [.int .i64 W, .int .i64 H, lst r.n1 r.s, lst r.n2 r.d], none⟩, bk 54 (nxU r u s2 Q).length (nxU r u s2 Q)]) (fun Q => 6 - Q) (a₀ := 0) ⟨by omega, by simp, rfl, rfl⟩ ?_
  rintro Q e h hk ⟨hQ, g71, g10, rfl⟩
  simp at hk
  have hnl := nxU_len r u s2 Q
  obtain ⟨acc, hacc⟩ : ∃ acc, acc = nxU r u s2 Q := ⟨_, rfl⟩
  have hsc := nxU_succ r u s2 Q
  rw [← hacc] at g10 hnl hsc ⊢
  simp (disch := first | omega | with_unfolding_all rfl) [hk, g71]
  refine G_brd (fun d => ?_) (fun d => ?_)
  · have hQ6 : Q < 6 := by omega
    have hP : ¬ (Q : Int) < 0 := by omega
    have hmin : min Q IntKind.i64.bits = Q := Nat.min_eq_left (by show Q ≤ 64; omega)
    have hE := endsT_ok (p := (Q : Int)) (by omega)
    have hlie : lie r u Q = decide ((ss r u).fdiv (2 ^ Q) % 2 = 1) := by
      have : ((W : Int) * (H : Int)) = ((W * H : Nat) : Int) := by push_cast; rfl
      have c1 : (u : Int) < (W : Int) * (H : Int) := by omega
      simp [lie, bitq, hw, hh, c1]
      omega
    have hm2 : (ss r u).fdiv (2 ^ Q) % 2 = 0 ∨ (ss r u).fdiv (2 ^ Q) % 2 = 1 := by omega
    have hrQ : decide (0 ≤ (Q : Int) ∧ (Q : Int) < 6) = true := by simp; omega
    simp (disch := first | omega | with_unfolding_all rfl) [hk, g71, g10, d, hgu, hP, hmin]
    rcases hm2 with m | m
    · have hl0 : lie r u Q = false := by rw [hlie, m]; rfl
      rw [hl0] at hsc
      simp at hsc
      simp (disch := first | omega | with_unfolding_all rfl) [hk, g71, g10, m]
      refine ⟨Q + 1, by omega, by omega, by omega, ?_⟩
      rw [hsc]; simp
    · have hl1 : lie r u Q = true := by rw [hlie, m]; rfl
      rw [hl1] at hsc
      by_cases q1 : s2 = sa Q
      · have hh2 : has Q s2 = true := by unfold has; rw [hrQ, q1]; simp
        have ho : oth Q s2 = sb Q := by unfold oth; rw [if_pos q1]
        rw [hh2, ho] at hsc
        simp at hsc
        simp (disch := first | omega | with_unfolding_all rfl) [hk, g71, g10, m, hE, q1]
        refine ⟨Q + 1, by omega, by omega, by omega, ?_⟩
        rw [← q1, hsc]; simp
      · by_cases q2 : s2 = sb Q
        · have hh2 : has Q s2 = true := by unfold has; rw [hrQ, q2]; simp
          have ho : oth Q s2 = sa Q := by unfold oth; rw [if_neg q1]
          rw [hh2, ho] at hsc
          simp at hsc
          have q3 : ¬ sb (Q : Int) = sa Q := by rw [← q2]; exact q1
          simp (disch := first | omega | with_unfolding_all rfl) [hk, g71, g10, m, hE, q2, q3]
          refine ⟨Q + 1, by omega, by omega, by omega, ?_⟩
          rw [← q2, hsc]; simp
        · have hh2 : has Q s2 = false := by unfold has; rw [decide_eq_false q1, decide_eq_false q2]; simp
          rw [hh2] at hsc
          simp at hsc
          simp (disch := first | omega | with_unfolding_all rfl) [hk, g71, g10, m, hE, q1, q2]
          refine ⟨Q + 1, by omega, by omega, by omega, ?_⟩
          rw [hsc]; simp
  · have hQ6 : Q = 6 := by omega
    subst hQ6
    simp (disch := first | omega | with_unfolding_all rfl) [hk, g71, g10, d, ← hacc]
end Go.Proofs.YtiaeckidlmoohaaGreat
end
section
set_option linter.unusedVariables false
set_option linter.unusedSimpArgs false
set_option maxHeartbeats 8000000
set_option maxRecDepth 20000
namespace Go.Proofs.YtiaeckidlmoohaaGreat
open Go.Proofs.YtiaeckidlmoohaaGreat.PM
theorem beyond2_ok {W H t : Nat} {s : Int} (hW : 4 ≤ W ∧ W ≤ 32) (hH : 4 ≤ H ∧ H ≤ 32) (ht : t < W * H) (hs : 0 ≤ s ∧ s < 4) : R tc 161 [.int .i64 W, .int .i64 H, .int .i64 t, .int .i64 s] = some (.int .i64 (bey W H t s)) := by
  have hM : W * H ≤ 32 * 32 := Nat.mul_le_mul hW.2 hH.2
  obtain ⟨hb1, hb2⟩ := bey_xy hW.1 hH.1 ht hs
  have hal : t % W < W := Nat.mod_lt _ (by omega)
  have hbl : t / W < H := by rw [Nat.div_lt_iff_lt_mul (by omega), Nat.mul_comm]; exact ht
  have hneg : bey W H t s < 0 → bey W H t s = -1 := by
    have hq : 1 ≤ t / W → W ≤ t := fun h => by have := (Nat.le_div_iff_mul_le (by omega)).1 h; omega
    unfold bey
    repeat' split
    all_goals omega
  generalize bey W H t s = B at *
  have tm : (t : Int).tmod (W : Int) = ((t % W : Nat) : Int) := rfl
  have td : (t : Int).tdiv (W : Int) = ((t / W : Nat) : Int) := rfl
  generalize hea : t % W = a at *
  generalize heb : t / W = b at *
  have hW0 : ¬ (W : Int) = 0 := by omega
  have hW00 : ¬ W = 0 := by omega
  refine R_of_G (F := pf161) (tc_nat _ rfl) rfl rfl ?_
  simp (disch := first | omega | with_unfolding_all rfl) [pf161, env0_eq, tm, td, hW00]
  refine G_splice2 (fun e' h' => get e' 0 = .int .i64 W ∧ get e' 1 = .int .i64 H ∧ get e' 9 = .int .i64 (dX s a) ∧ get e' 10 = .int .i64 (dY s b) ∧ h' = []) ?_ ?_
  · have hs4 : s = 0 ∨ s = 1 ∨ s = 2 ∨ s = 3 := by omega
    rcases hs4 with rfl | rfl | rfl | rfl <;> simp (disch := first | omega | with_unfolding_all rfl) [dX, dY]
  rintro e h ⟨g0, g1, g9, g10, rfl⟩
  generalize hX : dX s a = X at *
  generalize hY : dY s b = Y at *
  have hxr : -1 ≤ X ∧ X ≤ W := by rw [← hX]; unfold dX; split <;> (try split) <;> (try split) <;> omega
  have hyr : -1 ≤ Y ∧ Y ≤ H := by rw [← hY]; unfold dY; split <;> (try split) <;> (try split) <;> omega
  simp (disch := first | omega | with_unfolding_all rfl) [g0, g1, g9, g10]
  by_cases o1 : X < 0
  · have hb : B = -1 := by omega
    simp (disch := first | omega | with_unfolding_all rfl) [g0, g1, g9, g10, o1, hb]
  by_cases o3 : Y < 0
  · have hb : B = -1 := by omega
    simp (disch := first | omega | with_unfolding_all rfl) [g0, g1, g9, g10, o1, o3, hb]
  by_cases o2 : (W : Int) ≤ X
  · have hb : B = -1 := by omega
    simp (disch := first | omega | with_unfolding_all rfl) [g0, g1, g9, g10, o1, o2, o3, hb]
  by_cases o4 : (H : Int) ≤ Y
  · have hb : B = -1 := by omega
    simp (disch := first | omega | with_unfolding_all rfl) [g0, g1, g9, g10, o1, o2, o3, o4, hb]
  have hYX : Y * W + X = B := hb2 (by omega)
  have hYW : Y * W ≤ 1024 := by
    have : Y * W ≤ H * W := Int.mul_le_mul_of_nonneg_right (by omega) (by omega)
    have h2 : (H : Int) * W = ((W * H : Nat) : Int) := by push_cast; rw [Int.mul_comm]
    omega
  have hYW0 : 0 ≤ Y * W := Int.mul_nonneg (by omega) (by omega)
  simp (disch := first | omega | with_unfolding_all rfl) [g0, g1, g9, g10, o1, o2, o3, o4, hYX]
theorem on_ok {r : Rl} (g : Good r) {s : So} (h1 : has s.p s.o = true) (h2 : lie r s.t s.p = true) : R tc 141 [vR r, vSo s] = some (nxtV r s) := by
  obtain ⟨W, H, T, a⟩ := at_of g h1 h2
  have hN := a.nxt
  have hN' := a.nxt'
  obtain ⟨hw, hh, ht, hlt, hln, rg, bw, bh⟩ := a
  have hM : W * H ≤ 32 * 32 := Nat.mul_le_mul bw.2 bh.2
  obtain ⟨st, sp, so⟩ := s
  dsimp only at *
  subst ht
  have h87 := beyond2_ok bw bh hlt (s := so) (by omega)
  obtain ⟨B, hB⟩ : ∃ B, B = bey W H T so := ⟨_, rfl⟩
  rw [← hB] at hN hN' h87
  rw [hN]
  refine R_of_G (F := pf141) (tc_nat _ rfl) rfl rfl ?_
  by_cases hb : B < 0
  · simp (disch := first | omega | with_unfolding_all rfl) [pf141, env0_eq, hw, hh, h87, hb]
  obtain ⟨u, hu⟩ : ∃ u : Nat, B = u := ⟨B.toNat, by omega⟩
  have huM := bey_lt bw.1 hlt (s := so) (by omega) (hB.symm.trans hu)
  rw [if_neg hb, hu] at hN'
  rw [if_neg hb, hN']
  have hu0 : ((u : Int)).toNat = u := by omega
  rw [hu0]
  rw [hu] at h87
  obtain ⟨s2, hs2⟩ : ∃ s2, s2 = (so + 2).tmod 4 := ⟨_, rfl⟩
  rw [← hs2]
  have hs2r : 0 ≤ s2 ∧ s2 < 4 := by
    rw [hs2, Int.tmod_eq_emod_of_nonneg (by omega)]; omega
  have hus : u < r.s.length := by omega
  have hgu := ss_get hus
  have hrg := g.rg u hus
  have hmod : IntKind.i64.wrap (so + 2) = so + 2 := wrapI (by omega) (by omega)
  have hu00 : ¬ (u : Int) < 0 := by omega
  simp (disch := first | omega | with_unfolding_all rfl) [pf141, env0_eq, hw, hh, h87, hu00]
  refine G_loopK [2, 3, 5] (fun (Q : Nat) e hh => Q ≤ 6 ∧ get e 20 = .int .i64 (Q : Int) ∧ get e 6 = mls So 0 (nxU r u s2 Q).length (nxU r u s2 Q).length ∧ hh = [bk 54 (nxU r u s2 Q).length (nxU r u s2 Q)]) (fun Q => 6 - Q) (a₀ := 0) ⟨by omega, by simp, rfl, rfl⟩ ?_
  rintro Q e h hk ⟨hQ, g20, g6, rfl⟩
  simp at hk
  have hnl := nxU_len r u s2 Q
  obtain ⟨acc, hacc⟩ : ∃ acc, acc = nxU r u s2 Q := ⟨_, rfl⟩
  have hsc := nxU_succ r u s2 Q
  rw [← hacc] at g6 hnl hsc ⊢
  simp (disch := first | omega | with_unfolding_all rfl) [hk, g20]
  refine G_brd (fun d => ?_) (fun d => ?_)
  · have hQ6 : Q < 6 := by omega
    have hP : ¬ (Q : Int) < 0 := by omega
    have hmin : min Q IntKind.i64.bits = Q := Nat.min_eq_left (by show Q ≤ 64; omega)
    have hO := otherR_ok (p := (Q : Int)) (by omega) s2
    have hab := sab_rg (p := (Q : Int)) (by omega)
    have hwr : IntKind.u64.wrap (Q : Int) = Q := by
      have : Q = 0 ∨ Q = 1 ∨ Q = 2 ∨ Q = 3 ∨ Q = 4 ∨ Q = 5 := by omega
      rcases this with rfl | rfl | rfl | rfl | rfl | rfl <;> rfl
    have hlie : lie r u Q = decide ((ss r u).fdiv (2 ^ Q) % 2 = 1) := by
      have : ((W : Int) * (H : Int)) = ((W * H : Nat) : Int) := by push_cast; rfl
      have c1 : (u : Int) < (W : Int) * (H : Int) := by omega
      simp [lie, bitq, hw, hh, c1]
      omega
    have htm : ((ss r u).fdiv (2 ^ Q)).tmod 2 = (ss r u).fdiv (2 ^ Q) % 2 :=
      Int.tmod_eq_emod_of_nonneg (Int.fdiv_nonneg hrg.1 (Int.le_of_lt (Int.pow_pos (by omega))))
    have hm2 : (ss r u).fdiv (2 ^ Q) % 2 = 0 ∨ (ss r u).fdiv (2 ^ Q) % 2 = 1 := by omega
    have hrQ : decide (0 ≤ (Q : Int) ∧ (Q : Int) < 6) = true := by simp; omega
    rw [show (if s2 = sa (Q : Int) then sb (Q : Int) else if s2 = sb (Q : Int) then sa (Q : Int) else -1) = if has Q s2 = true then oth Q s2 else -1 from by
      unfold has oth
      rw [hrQ]
      by_cases q1 : s2 = sa Q
      · simp [q1]
      · by_cases q2 : s2 = sb Q
        · rw [if_neg q1, if_pos q2, if_pos (by simp [q2]), if_neg q1]
        · rw [if_neg q1, if_neg q2, if_neg (by simp [q1, q2])]] at hO
    simp (disch := first | omega | with_unfolding_all rfl) [hk, g20, g6, d, hgu, hP, hmin, hmod, ← hs2, hO, hwr, htm]
    rcases hm2 with m | m
    · have hl0 : lie r u Q = false := by rw [hlie, m]; rfl
      rw [hl0] at hsc
      simp at hsc
      simp (disch := first | omega | with_unfolding_all rfl) [hk, g20, g6, m]
      refine ⟨Q + 1, by omega, by omega, by omega, ?_⟩
      rw [hsc]; simp
    · have hl1 : lie r u Q = true := by rw [hlie, m]; rfl
      rw [hl1] at hsc
      cases hh2 : has Q s2
      · rw [hh2] at hsc
        simp at hsc
        simp (disch := first | omega | with_unfolding_all rfl) [hk, g20, g6, m]
        refine ⟨Q + 1, by omega, by omega, by omega, ?_⟩
        rw [hsc]; simp
      · have ho0 : 0 ≤ oth Q s2 := by unfold oth; split <;> omega
        rw [hh2] at hsc
        simp at hsc
        simp (disch := first | omega | with_unfolding_all rfl) [hk, g20, g6, m, ho0]
        refine ⟨Q + 1, by omega, by omega, by omega, ?_⟩
        rw [hsc]; simp
  · have hQ6 : Q = 6 := by omega
    subst hQ6
    simp (disch := first | omega | with_unfolding_all rfl) [hk, g20, g6, d, ← hacc]
end Go.Proofs.YtiaeckidlmoohaaGreat
end
section
set_option linter.unusedVariables false
set_option linter.unusedSimpArgs false
set_option maxHeartbeats 8000000
set_option maxRecDepth 20000
namespace Go.Proofs.YtiaeckidlmoohaaGreat
open Go.Proofs.YtiaeckidlmoohaaGreat.PM
noncomputable def folB (y : Yd) (a b : So) : Bool := decide (b ∈ nxt y.r a) || decide (b ∈ jts y.j a)
theorem nxtV_lst (r : Rl) (s : So) : ∃ nl, nl ≠ .bor ∧ nxtV r s = lst nl (nxt r s) := by
  rcases nxtV_cases r s with ⟨h1, h2⟩ | h
  · exact ⟨.nil, by decide, by rw [h1, h2]; rfl⟩
  · exact ⟨.any, by decide, h⟩
theorem nxU_len6 (r : Rl) (s : So) : (nxt r s).length ≤ 6 := by
  unfold nxt
  split
  · simp
  · exact nxU_len _ _ _ 6
theorem jts_len (j : List Jo) (s : So) : (jts j s).length ≤ j.length := by
  unfold jts
  rw [List.length_map]
  exact List.length_filter_le _ _
theorem follows_ok {y : Yd} {F : PV} (hF : Fd y F) (g : Good y.r) (hj : y.j.length ≤ 2000) {a b : So} (h1 : has a.p a.o = true) (h2 : lie y.r a.t a.p = true) : R tc 110 [F, vSo a, vSo b] = some (.bool (folB y a b)) := by
  have hn := nextF_ok hF g h1 h2
  obtain ⟨nl, hnl, hnv⟩ := nxtV_lst y.r a
  rw [hnv] at hn
  have hc1 := contains_ok (nl := nl) (nxt y.r a) b (by have := nxU_len6 y.r a; omega)
  have hc2 := contains_ok (nl := .any) (jts y.j a) b (by have := jts_len y.j a; omega)
  have hc3 := contains_ok (nl := .nil) ([] : List So) b (by simp)
  obtain ⟨ks1, vs1, ks2, vs2, sig, jnt⟩ := hF
  have hjn := jnt a
  obtain ⟨at_, ap, ao⟩ := a
  obtain ⟨bt, bp, bo⟩ := b
  dsimp only at *
  have hm : evMlk (some 3) (.list .nil 3 []) false (.fmap false (some 3) ks2 vs2) (vSo ⟨at_, ap, ao⟩) [] = some (lst (if jts y.j ⟨at_, ap, ao⟩ = [] then .nil else .any) (jts y.j ⟨at_, ap, ao⟩)) := by
    rw [evMlk_fmap (keyB_3 _ _ _), hjn]
    by_cases h0 : jts y.j ⟨at_, ap, ao⟩ = []
    · rw [if_pos h0, if_pos h0, h0]; rfl
    · rw [if_neg h0, if_neg h0]; rfl
  refine R_of_G (F := pf110) (tc_nat _ rfl) rfl rfl ?_
  simp (disch := first | omega | with_unfolding_all rfl) [pf110, env0_eq, hn, hc1, hm]
  by_cases c : (⟨bt, bp, bo⟩ : So) ∈ nxt y.r ⟨at_, ap, ao⟩
  · simp (disch := first | omega | with_unfolding_all rfl) [c, folB]
  · have hc4 : R tc 94 [lst (if jts y.j ⟨at_, ap, ao⟩ = [] then .nil else .any) (jts y.j ⟨at_, ap, ao⟩), vSo ⟨bt, bp, bo⟩] = some (.bool (decide ((⟨bt, bp, bo⟩ : So) ∈ jts y.j ⟨at_, ap, ao⟩))) :=
      contains_ok _ _ (by have := jts_len y.j ⟨at_, ap, ao⟩; omega)
    simp (disch := first | omega | with_unfolding_all rfl) [c, folB, hm, hc4]
theorem refFollows_ok {y : Yd} (g : Good y.r) (hj : y.j.length ≤ 2000) {a b : So} (h1 : has a.p a.o = true) (h2 : lie y.r a.t a.p = true) : R tc 115 [vYd y, vSo a, vSo b] = some (.bool (folB y a b)) := by
  have hn := on_ok g h1 h2
  obtain ⟨nl, hnl, hnv⟩ := nxtV_lst y.r a
  rw [hnv] at hn
  have hl6 := nxU_len6 y.r a
  obtain ⟨at_, ap, ao⟩ := a
  obtain ⟨bt, bp, bo⟩ := b
  dsimp only at *
  obtain ⟨N, hN⟩ : ∃ N, N = nxt y.r ⟨at_, ap, ao⟩ := ⟨_, rfl⟩
  unfold folB
  rw [← hN] at hn hl6 ⊢
  refine R_of_G (F := pf115) (tc_nat _ rfl) rfl rfl ?_
  simp (disch := first | omega | with_unfolding_all rfl) [pf115, env0_eq, hn]
  refine G_scanC [3, 4, 5, 14, 15] 16 (fun i => match N[i]? with | some x => decide (x = (⟨bt, bp, bo⟩ : So)) | none => false) N.length 0 (by simp) (Nat.zero_le _) ?_
  rintro i e - hi hz hk g16
  simp at hk
  simp (disch := first | omega | with_unfolding_all rfl) [hk, g16]
  refine G_brd (fun d => ?_) (fun d => ?_)
  · have hin : i < N.length := by omega
    obtain ⟨x, hx⟩ : ∃ x, x = N[i] := ⟨_, rfl⟩
    simp (disch := first | omega | with_unfolding_all rfl) [hk, g16, d, ← hx]
    cases c1 : (x.t == bt && (x.p == bp && x.o == bo))
    · simp (disch := first | omega | with_unfolding_all rfl) [hk, g16]
      intro q; rw [q] at c1; simp at c1
    · simp (disch := first | omega | with_unfolding_all rfl) [hk, g16]
      simp at c1
      have : x = (⟨bt, bp, bo⟩ : So) := so_ext.2 c1
      rw [← this, hx]; exact .inl (List.getElem_mem hin)
  · have hno : (⟨bt, bp, bo⟩ : So) ∉ N := by
      intro hx
      obtain ⟨j, hj, hx⟩ := List.getElem_of_mem hx
      have := hz j (Nat.zero_le j) (by omega)
      simp only [List.getElem?_eq_getElem hj, hx] at this
      simp at this
    simp (disch := first | omega | with_unfolding_all rfl) [hk, g16, d]
    refine G_scanC [4, 5, 25, 26] 27 (fun i => match y.j[i]? with | some x => decide (x.a = (⟨at_, ap, ao⟩ : So)) && decide (x.b = (⟨bt, bp, bo⟩ : So)) | none => false) y.j.length 0 (by simp) (Nat.zero_le _) ?_
    rintro i e - hi hz hk g27
    simp at hk
    simp (disch := first | omega | with_unfolding_all rfl) [hk, g27]
    refine G_brd (fun d => ?_) (fun d => ?_)
    · have hin : i < y.j.length := by omega
      obtain ⟨x, hx⟩ : ∃ x, x = y.j[i] := ⟨_, rfl⟩
      simp (disch := first | omega | with_unfolding_all rfl) [hk, g27, d, ← hx]
      have hb : ∀ u v : So, (u.t == v.t && (u.p == v.p && u.o == v.o)) = decide (u = v) := fun u v => by
        rw [Bool.eq_iff_iff]; simp [so_ext]
      have e1 := hb x.a ⟨at_, ap, ao⟩
      have e2 := hb x.b ⟨bt, bp, bo⟩
      dsimp only at e1 e2
      rw [e1]
      by_cases c1 : x.a = ⟨at_, ap, ao⟩
      · simp (disch := first | omega | with_unfolding_all rfl) [c1, e2]
        by_cases c2 : x.b = ⟨bt, bp, bo⟩
        · simp (disch := first | omega | with_unfolding_all rfl) [c2]
          right
          unfold jts
          rw [List.mem_map]
          exact ⟨x, List.mem_filter.2 ⟨by rw [hx]; exact List.getElem_mem hin, by simp [c1]⟩, c2⟩
        · simp (disch := first | omega | with_unfolding_all rfl) [c2, hk, g27]
      · simp (disch := first | omega | with_unfolding_all rfl) [c1, hk, g27]
    · simp (disch := first | omega | with_unfolding_all rfl) [hk, g27, d, hno]
      unfold jts
      rw [List.mem_map]
      rintro ⟨x, hx, hxb⟩
      obtain ⟨hx, hxa⟩ := List.mem_filter.1 hx
      simp at hxa
      obtain ⟨j, hj, hx⟩ := List.getElem_of_mem hx
      have := hz j (Nat.zero_le j) (by omega)
      simp only [List.getElem?_eq_getElem hj, hx, hxa, hxb] at this
      simp at this
end Go.Proofs.YtiaeckidlmoohaaGreat
end
