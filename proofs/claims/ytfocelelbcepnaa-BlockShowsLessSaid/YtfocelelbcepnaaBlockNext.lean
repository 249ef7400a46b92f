/- Blocks: the spots behind a spot. -/
import Derived.Test.YtfocelelbcepnaaBlockLaw1
set_option linter.unusedVariables false
set_option linter.unusedSimpArgs false
set_option maxHeartbeats 8000000
set_option maxRecDepth 20000
namespace Go.Proofs.Ytfocelelbcepnaa
open Go.Proofs.Ytfocelelbcepnaa.PM

/-- A spot. -/
structure So where
  t : Int
  p : Int
  o : Int
instance : Enc So where
  sz := 3
  enc l := [.int .i64 l.t, .int .i64 l.p, .int .i64 l.o]
  dec | [.int .i64 a, .int .i64 b, .int .i64 c] => some ⟨a, b, c⟩ | _ => none
  cln _ := true
  pos := by decide
  len _ := rfl
  one _ := rfl
  pur _ := rfl
  hcln _ := rfl
  dec_enc _ := rfl
  enc_dec l x h := by
    split at h
    · simp only [Option.some.injEq] at h; subst h; rfl
    · cases h
instance : Flat So := ⟨fun _ _ _ _ => rfl⟩
@[simp] theorem sz_so : Enc.sz So = 3 := rfl
@[simp] theorem enc_so (l : So) : Enc.enc l = [.int .i64 l.t, .int .i64 l.p, .int .i64 l.o] := rfl
@[simp] theorem cln_so (l : So) : Enc.cln l = true := rfl
@[simp] theorem dec_so (a b c : Int) : (Enc.dec [PV.int .i64 a, .int .i64 b, .int .i64 c] : Option So) = some ⟨a, b, c⟩ := rfl
@[simp] theorem lst_so (nl : Nl) (a b c : Int) : PV.list nl 3 [.int .i64 a, .int .i64 b, .int .i64 c] = lst nl [(⟨a, b, c⟩ : So)] := rfl
abbrev vSo (l : So) : PV := .agg [.int .i64 l.t, .int .i64 l.p, .int .i64 l.o]
/-- The other end of a piece. -/
def oth (p s : Int) : Int := if s = sa p then sb p else sa p
theorem other_ok (p s : Int) : R tb 113 [.int .i64 p, .int .i64 s] = some (if has p s = true then .tup [.int .i64 (oth p s), .bool true] else .tup [.int .i64 0, .bool false]) := by
  refine R_of_G (F := pf113) rfl rfl rfl ?_
  have h85 := ends_ok (p := p)
  by_cases h : 0 ≤ p ∧ p < 6
  · rw [if_pos h] at h85
    by_cases h1 : s = sa p
    · simp (disch := first | omega | with_unfolding_all rfl) [pf113, env0_eq, h85, has, h, h1, oth]
    · by_cases h2 : s = sb p
      · have h3 : ¬ sb p = sa p := by rw [← h2]; exact h1
        simp (disch := first | omega | with_unfolding_all rfl) [pf113, env0_eq, h85, has, h, h1, h2, h3, oth]
      · simp (disch := first | omega | with_unfolding_all rfl) [pf113, env0_eq, h85, has, h, h1, h2, oth]
  · rw [if_neg h] at h85
    have : has p s = false := by simp only [has]; rw [decide_eq_false h]; rfl
    simp (disch := first | omega | with_unfolding_all rfl) [pf113, env0_eq, h85, this]
theorem first_ok' (p : Int) : R tb 76 [.int .i64 p] = some (.int .i64 (if 0 ≤ p ∧ p < 6 then sa p else -1)) := by
  by_cases h : 0 ≤ p ∧ p < 6
  · have : p = 0 ∨ p = 1 ∨ p = 2 ∨ p = 3 ∨ p = 4 ∨ p = 5 := by omega
    rcases this with rfl | rfl | rfl | rfl | rfl | rfl <;> exact R_of (n := 60) (by kernel_rfl)
  · rw [if_neg h]
    refine R_of_G (F := pf76) rfl rfl rfl ?_
    have h0 : p ≠ 0 := by omega
    have h1 : p ≠ 1 := by omega
    have h2 : p ≠ 2 := by omega
    have h3 : p ≠ 3 := by omega
    have h4 : p ≠ 4 := by omega
    have h5 : p ≠ 5 := by omega
    simp (disch := first | omega | with_unfolding_all rfl) [pf76, env0_eq, h0, h1, h2, h3, h4, h5]
theorem second_ok' (p : Int) : R tb 82 [.int .i64 p] = some (.int .i64 (if 0 ≤ p ∧ p < 6 then sb p else -1)) := by
  by_cases h : 0 ≤ p ∧ p < 6
  · have : p = 0 ∨ p = 1 ∨ p = 2 ∨ p = 3 ∨ p = 4 ∨ p = 5 := by omega
    rcases this with rfl | rfl | rfl | rfl | rfl | rfl <;> exact R_of (n := 60) (by kernel_rfl)
  · rw [if_neg h]
    refine R_of_G (F := pf82) rfl rfl rfl ?_
    have h0 : p ≠ 0 := by omega
    have h1 : p ≠ 1 := by omega
    have h2 : p ≠ 2 := by omega
    have h3 : p ≠ 3 := by omega
    have h4 : p ≠ 4 := by omega
    have h5 : p ≠ 5 := by omega
    simp (disch := first | omega | with_unfolding_all rfl) [pf82, env0_eq, h0, h1, h2, h3, h4, h5]
theorem sab_rg {p : Int} (h : 0 ≤ p ∧ p < 6) : 0 ≤ sa p ∧ sa p < 4 ∧ 0 ≤ sb p ∧ sb p < 4 ∧ sa p ≠ sb p := by
  have : p = 0 ∨ p = 1 ∨ p = 2 ∨ p = 3 ∨ p = 4 ∨ p = 5 := by omega
  rcases this with rfl | rfl | rfl | rfl | rfl | rfl <;> decide
theorem refOther_ok (p s : Int) : R tb 110 [.int .i64 p, .int .i64 s] = some (.int .i64 (if has p s = true then oth p s else -1)) := by
  refine R_of_G (F := pf110) rfl rfl rfl ?_
  have h76 := first_ok' p
  have h82 := second_ok' p
  by_cases hs : s < 0
  · have : has p s = false := by
      cases c : has p s
      · rfl
      · have := has_lt c; omega
    simp (disch := first | omega | with_unfolding_all rfl) [pf110, env0_eq, hs, this]
  by_cases h : 0 ≤ p ∧ p < 6
  · have hr := sab_rg h
    rw [if_pos h] at h76 h82
    by_cases h1 : s = sa p
    · have hs' : ¬ sa p < 0 := by omega
      simp (disch := first | omega | with_unfolding_all rfl) [pf110, env0_eq, hs', h76, h82, has, h, h1, oth]
    · have h1' : ¬ sa p = s := fun q => h1 q.symm
      by_cases h2 : s = sb p
      · have h3 : ¬ sb p = sa p := by rw [← h2]; exact h1
        have h3' : ¬ sa p = sb p := fun q => h3 q.symm
        have hs' : ¬ sb p < 0 := by omega
        simp (disch := first | omega | with_unfolding_all rfl) [pf110, env0_eq, hs', h76, h82, has, h, h2, h3, h3', oth]
      · have h2' : ¬ sb p = s := fun q => h2 q.symm
        simp (disch := first | omega | with_unfolding_all rfl) [pf110, env0_eq, hs, h76, h82, has, h, h1, h2, h1', h2', oth]
  · rw [if_neg h] at h76 h82
    have : has p s = false := by simp only [has]; rw [decide_eq_false h]; rfl
    have hs1 : ¬ (-1 : Int) = s := by omega
    simp (disch := first | omega | with_unfolding_all rfl) [pf110, env0_eq, hs, h76, h82, this, hs1]
/-- The spots behind a spot, of the first Q pieces. -/
def nxU (r : Rl) (u : Nat) (s : Int) (Q : Nat) : List So := (List.range Q).filterMap fun (q : Nat) => if (lie r u q && has q s) = true then some ⟨u, q, oth q s⟩ else none
theorem nxU_succ (r : Rl) (u : Nat) (s : Int) (Q : Nat) : nxU r u s (Q + 1) = nxU r u s Q ++ if (lie r u Q && has Q s) = true then [⟨u, Q, oth Q s⟩] else [] := by
  unfold nxU
  rw [List.range_succ, List.filterMap_append]
  congr 1
  rw [List.filterMap_cons, List.filterMap_nil]
  cases h : (lie r u Q && has Q s) <;> rfl
theorem nxU_len (r : Rl) (u : Nat) (s : Int) : ∀ Q, (nxU r u s Q).length ≤ Q
  | 0 => by simp [nxU]
  | Q + 1 => by
    have := nxU_len r u s Q
    rw [nxU_succ, List.length_append]
    split <;> simp <;> omega
noncomputable def nxt (r : Rl) (s : So) : List So := if bey r.w.toNat r.h.toNat s.t.toNat s.o < 0 then [] else nxU r (bey r.w.toNat r.h.toNat s.t.toNat s.o).toNat ((s.o + 2).tmod 4) 6
noncomputable def nxtV (r : Rl) (s : So) : PV := if bey r.w.toNat r.h.toNat s.t.toNat s.o < 0 then .list .nil 1 [] else lst .any (nxt r s)
theorem bey_lt {W H t : Nat} {s : Int} {u : Nat} (hW : 4 ≤ W) (ht : t < W * H) (hs : 0 ≤ s ∧ s < 4) (h : bey W H t s = (u : Int)) : u < W * H := by
  have hs4 : s = 0 ∨ s = 1 ∨ s = 2 ∨ s = 3 := by omega
  rcases hs4 with rfl | rfl | rfl | rfl
  · simp [bey] at h
    split at h
    · rename_i c
      have := beside_lt (t := t) (W := W) (H := H) ht (by omega)
      omega
    · omega
  · simp [bey] at h
    split at h
    · rename_i c
      have := below_lt (t := t) (W := W) (H := H) (by omega) (by generalize t / W = z at c ⊢; omega)
      omega
    · omega
  · simp [bey] at h
    split at h <;> omega
  · simp [bey] at h
    split at h <;> omega
theorem beside_ok {W H t : Nat} {s : Int} (hW : 4 ≤ W ∧ W ≤ 32) (hH : 4 ≤ H ∧ H ≤ 32) (ht : t < W * H) (hs : 0 ≤ s ∧ s < 4) : ∃ n, R tb 112 [.int .i64 W, .int .i64 H, .int .i64 t, .int .i64 s] = some (.tup [.int .i64 n, .bool (decide (0 ≤ bey W H t s))]) ∧ (0 ≤ bey W H t s → n = bey W H t s) := by
  have tm : (t : Int).tmod (W : Int) = ((t % W : Nat) : Int) := rfl
  have td : (t : Int).tdiv (W : Int) = ((t / W : Nat) : Int) := rfl
  obtain ⟨a, ha⟩ : ∃ a, a = t % W := ⟨_, rfl⟩
  obtain ⟨b, hb⟩ : ∃ b, b = t / W := ⟨_, rfl⟩
  rw [← ha] at tm
  rw [← hb] at td
  have hal : a < W := by rw [ha]; exact Nat.mod_lt _ (by omega)
  have hbl : b < H := by rw [hb, Nat.div_lt_iff_lt_mul (by omega), Nat.mul_comm]; exact ht
  have hM : W * H ≤ 32 * 32 := Nat.mul_le_mul hW.2 hH.2
  obtain ⟨c, hc⟩ : ∃ c : Nat, c = b * W := ⟨_, rfl⟩
  have hdm : t = c + a := by have := Nat.div_add_mod t W; rw [← ha, ← hb, Nat.mul_comm] at this; omega
  have c0 : (b : Int) * (W : Int) = (c : Int) := by rw [hc]; push_cast; rfl
  have c1 : ((b : Int) + 1) * (W : Int) = (c : Int) + W := by rw [Int.add_mul, c0]; omega
  have c2 : ((b : Int) + -1) * (W : Int) = (c : Int) - W := by rw [Int.add_mul, c0]; omega
  have hW0 : ¬ W = 0 := by omega
  have hcW : 1 ≤ b → W ≤ c := fun h => by rw [hc]; exact Nat.le_mul_of_pos_left W h
  have r1 : (0 : Int) ≤ a := by omega
  have r2 : (a : Int) < W := by omega
  have r3 : (0 : Int) ≤ b := by omega
  have r4 : (b : Int) < H := by omega
  have hs4 : s = 0 ∨ s = 1 ∨ s = 2 ∨ s = 3 := by omega
  rcases hs4 with rfl | rfl | rfl | rfl
  · refine ⟨(c : Int) + (a + 1), ?_, fun h => ?_⟩
    · refine R_of_G (F := pf112) rfl rfl rfl ?_
      have r5 : (0 : Int) ≤ (a : Int) + 1 := by omega
      by_cases g : a + 1 < W
      · have g' : (a : Int) + 1 < W := by omega
        have q : (0 : Int) ≤ (t : Int) + 1 := by omega
        simp (disch := first | omega | with_unfolding_all rfl) [pf112, env0_eq, tm, td, hW0, bey, ← ha, ← hb, c0, r3, r4, r5, g, g', q]
      · have g' : ¬ (a : Int) + 1 < W := by omega
        simp (disch := first | omega | with_unfolding_all rfl) [pf112, env0_eq, tm, td, hW0, bey, ← ha, ← hb, c0, r3, r4, r5, g, g']
    · simp [bey] at h ⊢
      split at h
      · rename_i q; rw [if_pos q]; omega
      · omega
  · refine ⟨(c : Int) + W + a, ?_, fun h => ?_⟩
    · refine R_of_G (F := pf112) rfl rfl rfl ?_
      have r5 : (0 : Int) ≤ (b : Int) + 1 := by omega
      by_cases g : b + 1 < H
      · have g' : (b : Int) + 1 < H := by omega
        have q : (0 : Int) ≤ (t : Int) + W := by omega
        simp (disch := first | omega | with_unfolding_all rfl) [pf112, env0_eq, tm, td, hW0, bey, ← ha, ← hb, c1, r1, r2, r5, g, g', q]
      · have g' : ¬ (b : Int) + 1 < H := by omega
        simp (disch := first | omega | with_unfolding_all rfl) [pf112, env0_eq, tm, td, hW0, bey, ← ha, ← hb, c1, r1, r2, r5, g, g']
    · simp [bey] at h ⊢
      split at h
      · rename_i q; rw [if_pos q]; omega
      · omega
  · refine ⟨(c : Int) + (a + -1), ?_, fun h => ?_⟩
    · refine R_of_G (F := pf112) rfl rfl rfl ?_
      have r5 : (a : Int) + -1 < W := by omega
      by_cases g : 1 ≤ a
      · have g' : (0 : Int) ≤ (a : Int) + -1 := by omega
        have q : (0 : Int) ≤ (t : Int) - 1 := by omega
        simp (disch := first | omega | with_unfolding_all rfl) [pf112, env0_eq, tm, td, hW0, bey, ← ha, ← hb, c0, r3, r4, r5, g, g', q]
        omega
      · have g' : ¬ (0 : Int) ≤ (a : Int) + -1 := by omega
        simp (disch := first | omega | with_unfolding_all rfl) [pf112, env0_eq, tm, td, hW0, bey, ← ha, ← hb, c0, r3, r4, r5, g, g']
    · simp [bey] at h ⊢
      split at h
      · rename_i q; rw [if_pos q]; omega
      · omega
  · refine ⟨(c : Int) - W + a, ?_, fun h => ?_⟩
    · refine R_of_G (F := pf112) rfl rfl rfl ?_
      have r5 : (b : Int) + -1 < H := by omega
      by_cases g : 1 ≤ b
      · have g' : (0 : Int) ≤ (b : Int) + -1 := by omega
        have q : (0 : Int) ≤ (t : Int) - W := by have := hcW g; omega
        simp (disch := first | omega | with_unfolding_all rfl) [pf112, env0_eq, tm, td, hW0, bey, ← ha, ← hb, c2, r1, r2, r5, g, g', q]
        have := hcW g
        omega
      · have g' : ¬ (0 : Int) ≤ (b : Int) + -1 := by omega
        simp (disch := first | omega | with_unfolding_all rfl) [pf112, env0_eq, tm, td, hW0, bey, ← ha, ← hb, c2, r1, r2, r5, g, g']
    · simp [bey] at h ⊢
      split at h
      · rename_i q; rw [if_pos q]; omega
      · omega
/-- The place of a spot that is there. -/
structure At (r : Rl) (s : So) (W H T : Nat) : Prop where
  w : r.w = W
  h : r.h = H
  t : s.t = T
  lt : T < W * H
  ln : r.s.length = W * H
  rg : 0 ≤ s.p ∧ s.p < 6 ∧ 0 ≤ s.o ∧ s.o < 4
  bw : 4 ≤ W ∧ W ≤ 32
  bh : 4 ≤ H ∧ H ≤ 32
theorem at_of {r : Rl} (g : Good r) {s : So} (h1 : has s.p s.o = true) (h2 : lie r s.t s.p = true) : ∃ W H T, At r s W H T := by
  have hl := lie_lt h2
  have hh := has_lt h1
  obtain ⟨W, rw1⟩ : ∃ W : Nat, r.w = W := ⟨r.w.toNat, by have := g.w0; omega⟩
  obtain ⟨H, rh1⟩ : ∃ H : Nat, r.h = H := ⟨r.h.toNat, by have := g.h0; omega⟩
  have hWH : r.w * r.h = ((W * H : Nat) : Int) := by rw [rw1, rh1]; push_cast; rfl
  have := g.ls
  exact ⟨W, H, s.t.toNat, rw1, rh1, by omega, by omega, by omega, by omega, by have := g.w0; have := g.w1; omega, by have := g.h0; have := g.h1; omega⟩
theorem At.nxt {r : Rl} {s : So} {W H T : Nat} (a : At r s W H T) : nxtV r s = if bey W H T s.o < 0 then .list .nil 1 [] else lst .any (nxt r s) := by
  unfold nxtV
  rw [a.w, a.h, a.t]; rfl
theorem At.nxt' {r : Rl} {s : So} {W H T : Nat} (a : At r s W H T) : Ytfocelelbcepnaa.nxt r s = if bey W H T s.o < 0 then [] else nxU r (bey W H T s.o).toNat ((s.o + 2).tmod 4) 6 := by
  unfold Ytfocelelbcepnaa.nxt
  rw [a.w, a.h, a.t]; rfl
theorem nextP_ok {r : Rl} (g : Good r) {s : So} (h1 : has s.p s.o = true) (h2 : lie r s.t s.p = true) : R tb 95 [vR r, vSo s] = some (nxtV r s) := by
  obtain ⟨W, H, T, a⟩ := at_of g h1 h2
  have hN := a.nxt
  have hN' := a.nxt'
  obtain ⟨hw, hh, ht, hlt, hln, rg, bw, bh⟩ := a
  have hM : W * H ≤ 32 * 32 := Nat.mul_le_mul bw.2 bh.2
  obtain ⟨st, sp, so⟩ := s
  dsimp only at *
  subst ht
  obtain ⟨n, h112, hn⟩ := beside_ok bw bh hlt (s := so) (by omega)
  obtain ⟨B, hB⟩ : ∃ B, B = bey W H T so := ⟨_, rfl⟩
  rw [← hB] at hN hN' h112 hn
  rw [hN]
  refine R_of_G (F := pf95) rfl rfl rfl ?_
  by_cases hb : B < 0
  · have hb' : ¬ 0 ≤ B := by omega
    simp (disch := first | omega | with_unfolding_all rfl) [pf95, env0_eq, hw, hh, h112, hb, hb']
  have hb' : 0 ≤ B := by omega
  obtain ⟨u, hu⟩ : ∃ u : Nat, B = u := ⟨B.toNat, by omega⟩
  have hnu : n = (u : Int) := by rw [hn hb', hu]
  have huM := bey_lt bw.1 hlt (s := so) (by omega) (hB.symm.trans hu)
  rw [if_neg hb, hu] at hN'
  rw [if_neg hb, hN']
  have hu0 : ((u : Int)).toNat = u := by omega
  rw [hu0]
  subst hnu
  obtain ⟨s2, hs2⟩ : ∃ s2, s2 = (so + 2).tmod 4 := ⟨_, rfl⟩
  have hus : u < r.s.length := by omega
  have hgu := ss_get hus
  have hrg := g.rg u hus
  rw [← hs2]
  have hmod : IntKind.i64.wrap (so + 2) = so + 2 := wrapI (by omega) (by omega)
  simp (disch := first | omega | with_unfolding_all rfl) [pf95, env0_eq, hw, hh, h112, hb']
  refine G_loopK [2, 3, 5] (fun (Q : Nat) e hh => Q ≤ 6 ∧ get e 25 = .int .i64 (Q : Int) ∧ get e 7 = mls So 0 (nxU r u s2 Q).length (nxU r u s2 Q).length ∧ hh = [bk 48 (nxU r u s2 Q).length (nxU r u s2 Q)]) (fun Q => 6 - Q) (a₀ := 0) ⟨by omega, by simp, rfl, rfl⟩ ?_
  rintro Q e h hk ⟨hQ, g25, g7, rfl⟩
  simp at hk
  have hnl := nxU_len r u s2 Q
  obtain ⟨acc, hacc⟩ : ∃ acc, acc = nxU r u s2 Q := ⟨_, rfl⟩
  have hsc := nxU_succ r u s2 Q
  rw [← hacc] at g7 hnl hsc ⊢
  simp (disch := first | omega | with_unfolding_all rfl) [hk, g25]
  refine G_brd (fun d => ?_) (fun d => ?_)
  · have hQ6 : Q < 6 := by omega
    have hP : ¬ (Q : Int) < 0 := by omega
    have hmin : min Q IntKind.i64.bits = Q := Nat.min_eq_left (by show Q ≤ 64; omega)
    have hO := other_ok (Q : Int) s2
    have hlie : lie r u Q = decide ((ss r u).fdiv (2 ^ Q) % 2 = 1) := by
      have : ((W : Int) * (H : Int)) = ((W * H : Nat) : Int) := by push_cast; rfl
      have c1 : (u : Int) < (W : Int) * (H : Int) := by omega
      simp [lie, bitq, hw, hh, c1]
      omega
    have hm2 : (ss r u).fdiv (2 ^ Q) % 2 = 0 ∨ (ss r u).fdiv (2 ^ Q) % 2 = 1 := by omega
    simp (disch := first | omega | with_unfolding_all rfl) [hk, g25, g7, d, hgu, hP, hmin]
    rcases hm2 with m | m
    · have hl0 : lie r u Q = false := by rw [hlie, m]; rfl
      rw [hl0] at hsc
      simp at hsc
      simp (disch := first | omega | with_unfolding_all rfl) [hk, g25, g7, m]
      refine ⟨Q + 1, by omega, by omega, by omega, ?_⟩
      rw [hsc]; simp
    · have hl1 : lie r u Q = true := by rw [hlie, m]; rfl
      rw [hl1] at hsc
      cases hh2 : has Q s2
      · rw [hh2] at hO hsc
        simp at hsc
        rw [if_neg (by decide)] at hO
        simp (disch := first | omega | with_unfolding_all rfl) [hk, g25, g7, m, hmod, ← hs2, hO]
        refine ⟨Q + 1, by omega, by omega, by omega, ?_⟩
        rw [hsc]; simp
      · rw [hh2] at hO hsc
        simp at hsc
        rw [if_pos rfl] at hO
        simp (disch := first | omega | with_unfolding_all rfl) [hk, g25, g7, m, hmod, ← hs2, hO]
        refine ⟨Q + 1, by omega, by omega, by omega, ?_⟩
        rw [hsc]; simp
  · have hQ6 : Q = 6 := by omega
    subst hQ6
    simp (disch := first | omega | with_unfolding_all rfl) [hk, g25, g7, d, ← hacc]
theorem follow_ok {r : Rl} (g : Good r) {s : So} (h1 : has s.p s.o = true) (h2 : lie r s.t s.p = true) : R tb 93 [vR r, vSo s] = some (nxtV r s) := by
  obtain ⟨W, H, T, a⟩ := at_of g h1 h2
  have hN := a.nxt
  have hN' := a.nxt'
  obtain ⟨hw, hh, ht, hlt, hln, rg, bw, bh⟩ := a
  have hM : W * H ≤ 32 * 32 := Nat.mul_le_mul bw.2 bh.2
  obtain ⟨st, sp, so⟩ := s
  dsimp only at *
  subst ht
  have h87 := bey_ok bw bh hlt (s := so)
  obtain ⟨B, hB⟩ : ∃ B, B = bey W H T so := ⟨_, rfl⟩
  rw [← hB] at hN hN' h87
  rw [hN]
  refine R_of_G (F := pf93) rfl rfl rfl ?_
  by_cases hb : B < 0
  · simp (disch := first | omega | with_unfolding_all rfl) [pf93, env0_eq, hw, hh, h87, hb]
  obtain ⟨u, hu⟩ : ∃ u : Nat, B = u := ⟨B.toNat, by omega⟩
  have huM := bey_lt bw.1 hlt (s := so) (by omega) (hB.symm.trans hu)
  rw [if_neg hb, hu] at hN'
  rw [if_neg hb, hN']
  have hu0 : ((u : Int)).toNat = u := by omega
  rw [hu0]
  rw [hu] at h87
  obtain ⟨s2, hs2⟩ : ∃ s2, s2 = (so + 2).tmod 4 := ⟨_, rfl⟩
  rw [← hs2]
  have hmod : IntKind.i64.wrap (so + 2) = so + 2 := wrapI (by omega) (by omega)
  have hu00 : ¬ (u : Int) < 0 := by omega
  simp (disch := first | omega | with_unfolding_all rfl) [pf93, env0_eq, hw, hh, h87, hu00]
  refine G_loopK [2, 3, 5] (fun (Q : Nat) e hh => Q ≤ 6 ∧ get e 7 = .int .i64 (Q : Int) ∧ get e 6 = mls So 0 (nxU r u s2 Q).length (nxU r u s2 Q).length ∧ hh = [bk 48 (nxU r u s2 Q).length (nxU r u s2 Q)]) (fun Q => 6 - Q) (a₀ := 0) ⟨by omega, by simp, rfl, rfl⟩ ?_
  rintro Q e h hk ⟨hQ, g25, g7, rfl⟩
  simp at hk
  have hnl := nxU_len r u s2 Q
  obtain ⟨acc, hacc⟩ : ∃ acc, acc = nxU r u s2 Q := ⟨_, rfl⟩
  have hsc := nxU_succ r u s2 Q
  rw [← hacc] at g7 hnl hsc ⊢
  simp (disch := first | omega | with_unfolding_all rfl) [hk, g25]
  refine G_brd (fun d => ?_) (fun d => ?_)
  · have hQ6 : Q < 6 := by omega
    have hO := refOther_ok (Q : Int) s2
    have hL := refLies_ok g (u : Int) (Q : Int)
    simp only [vR, hw, hh] at hL
    cases hh2 : has Q s2
    · rw [hh2] at hO hsc
      simp at hsc
      rw [if_neg (by decide)] at hO
      simp (disch := first | omega | with_unfolding_all rfl) [hk, g25, g7, d, hmod, ← hs2, hO]
      refine ⟨Q + 1, by omega, by omega, by omega, ?_⟩
      rw [hsc]; simp
    · rw [hh2] at hO hsc
      rw [if_pos rfl] at hO
      have ho0 : 0 ≤ oth Q s2 := by
        have := sab_rg (p := (Q : Int)) (by omega)
        unfold oth; split <;> omega
      cases hl2 : lie r u Q
      · rw [hl2] at hL hsc
        simp at hsc
        simp (disch := first | omega | with_unfolding_all rfl) [hk, g25, g7, d, hmod, ← hs2, hO, ho0, hw, hh, hL]
        refine ⟨Q + 1, by omega, by omega, by omega, ?_⟩
        rw [hsc]; simp
      · rw [hl2] at hL hsc
        simp at hsc
        simp (disch := first | omega | with_unfolding_all rfl) [hk, g25, g7, d, hmod, ← hs2, hO, ho0, hw, hh, hL]
        refine ⟨Q + 1, by omega, by omega, by omega, ?_⟩
        rw [hsc]; simp
  · have hQ6 : Q = 6 := by omega
    subst hQ6
    simp (disch := first | omega | with_unfolding_all rfl) [hk, g25, g7, d, ← hacc]
/-! ### Next -/
def spErr (r : Rl) (s : So) : Int := if has s.p s.o = true then (if lie r s.t s.p = true then 0 else 2) else 1
noncomputable def nextV (r : Rl) (s : So) : PV := if spErr r s = 0 then .tup [nxtV r s, .int .i64 0] else .tup [.list .nil 1 [], .int .i64 (spErr r s)]
theorem nxtV_cases (r : Rl) (s : So) : (nxtV r s = .list .nil 1 [] ∧ nxt r s = []) ∨ nxtV r s = lst .any (nxt r s) := by
  unfold nxtV
  split
  · rename_i h
    refine .inl ⟨rfl, ?_⟩
    unfold nxt; rw [if_pos h]
  · exact .inr rfl
theorem spErr0 {r : Rl} {s : So} (h : spErr r s = 0) : has s.p s.o = true ∧ lie r s.t s.p = true := by
  unfold spErr at h
  split at h
  · split at h
    · exact ⟨by assumption, by assumption⟩
    · cases h
  · cases h
theorem spotErr_ok {r : Rl} (g : Good r) (s : So) : R tb 92 [vR r, vSo s] = some (.int .i64 (spErr r s)) := by
  obtain ⟨st, sp, so⟩ := s
  have hO := refOther_ok sp so
  have hL := refLies_ok g st sp
  simp only [vR] at hL
  refine R_of_G (F := pf92) rfl rfl rfl ?_
  cases h1 : has sp so
  · rw [h1, if_neg (by decide)] at hO
    simp (disch := first | omega | with_unfolding_all rfl) [pf92, env0_eq, hO, spErr, h1]
  · rw [h1, if_pos rfl] at hO
    have hh := has_lt h1
    have ho0 : ¬ oth sp so < 0 := by
      have := sab_rg (p := sp) (by omega)
      unfold oth; split <;> omega
    cases h2 : lie r st sp
    · rw [h2] at hL
      simp (disch := first | omega | with_unfolding_all rfl) [pf92, env0_eq, hO, ho0, hL, spErr, h1, h2]
    · rw [h2] at hL
      simp (disch := first | omega | with_unfolding_all rfl) [pf92, env0_eq, hO, ho0, hL, spErr, h1, h2]
theorem refNext_ok {r : Rl} (g : Good r) (h0 : railErr r = 0) (hb : r.s.length ≤ 3000) (s : So) : R tb 64 [vR r, vSo s] = some (nextV r s) := by
  have h49 := refRailV_ok r hb
  have h92 := spotErr_ok g s
  rw [h0] at h49
  refine R_of_G (F := pf64) rfl rfl rfl ?_
  by_cases h : spErr r s = 0
  · obtain ⟨h1, h2⟩ := spErr0 h
    have h93 := follow_ok g h1 h2
    rcases nxtV_cases r s with ⟨q, _⟩ | q <;> rw [q] at h93 <;> simp (disch := first | omega | with_unfolding_all rfl) [pf64, env0_eq, h49, h92, h, h93, nextV, q]
  · simp (disch := first | omega | with_unfolding_all rfl) [pf64, env0_eq, h49, h92, h, nextV]
theorem back_ok (s : So) : ∃ x, R tb 118 [vSo s] = some (.tup [x, .int .i64 (if has s.p s.o = true then 0 else 1)]) ∧ ∃ a b c, x = .agg [.int .i64 a, .int .i64 b, .int .i64 c] := by
  obtain ⟨st, sp, so⟩ := s
  have hO := other_ok sp so
  cases h : has sp so
  · rw [h, if_neg (by decide)] at hO
    refine ⟨.agg [.int .i64 0, .int .i64 0, .int .i64 0], ?_, _, _, _, rfl⟩
    refine R_of_G (F := pf118) rfl rfl rfl ?_
    simp (disch := first | omega | with_unfolding_all rfl) [pf118, env0_eq, hO]
  · rw [h, if_pos rfl] at hO
    refine ⟨.agg [.int .i64 st, .int .i64 sp, .int .i64 (oth sp so)], ?_, _, _, _, rfl⟩
    refine R_of_G (F := pf118) rfl rfl rfl ?_
    simp (disch := first | omega | with_unfolding_all rfl) [pf118, env0_eq, hO]
theorem tile_ok {r : Rl} (g : Good r) (t : Int) : R tb 99 [vR r, .int .i64 t] = some (.bool (decide (0 ≤ t) && decide (t < r.w * r.h))) := by
  have hm := g.mul
  have := g.w1
  have := g.h1
  have := g.w0
  have := g.h0
  obtain ⟨w, h, n1, s, n2, d⟩ := r
  dsimp only at *
  refine R_of_G (F := pf99) rfl rfl rfl ?_
  by_cases a1 : 0 ≤ t
  · by_cases a2 : t < w * h
    · simp (disch := first | omega | with_unfolding_all rfl) [pf99, env0_eq, a1, a2]
    · simp (disch := first | omega | with_unfolding_all rfl) [pf99, env0_eq, a1, a2]
  · simp (disch := first | omega | with_unfolding_all rfl) [pf99, env0_eq, a1]
theorem thereP_ok {r : Rl} (g : Good r) (s : So) : R tb 111 [vR r, vSo s] = some (.int .i64 (spErr r s)) := by
  obtain ⟨x, h118, a, b, c, rfl⟩ := back_ok s
  have h99 := tile_ok g s.t
  have hls := g.ls
  have hm := g.mul
  obtain ⟨st, sp, so⟩ := s
  dsimp only at h99
  simp only [vSo] at h118
  refine R_of_G (F := pf111) rfl rfl rfl ?_
  cases h1 : has sp so
  · rw [h1, if_neg (by decide)] at h118
    simp (disch := first | omega | with_unfolding_all rfl) [pf111, env0_eq, h118, spErr, h1]
  rw [h1, if_pos rfl] at h118
  have hh := has_lt h1
  by_cases a1 : 0 ≤ st
  case neg =>
    have : lie r st sp = false := by
      cases c : lie r st sp
      · rfl
      · have := lie_lt c; omega
    simp (disch := first | omega | with_unfolding_all rfl) [pf111, env0_eq, h118, h99, spErr, h1, a1, this]
  by_cases a2 : st < r.w * r.h
  case neg =>
    have : lie r st sp = false := by
      cases c : lie r st sp
      · rfl
      · have := lie_lt c; omega
    simp (disch := first | omega | with_unfolding_all rfl) [pf111, env0_eq, h118, h99, spErr, h1, a1, a2, this]
  obtain ⟨T, rfl⟩ : ∃ T : Nat, st = T := ⟨st.toNat, by omega⟩
  obtain ⟨P, rfl⟩ : ∃ P : Nat, sp = P := ⟨sp.toNat, by omega⟩
  have hT : T < r.s.length := by omega
  have hgT := ss_get hT
  have hrg := g.rg T hT
  have hP : ¬ (P : Int) < 0 := by omega
  have hmin : min P IntKind.i64.bits = P := Nat.min_eq_left (by show P ≤ 64; omega)
  have hlie : lie r T P = decide ((ss r T).fdiv (2 ^ P) % 2 = 1) := by
    simp [lie, bitq, a2]
    omega
  have hm2 : (ss r T).fdiv (2 ^ P) % 2 = 0 ∨ (ss r T).fdiv (2 ^ P) % 2 = 1 := by omega
  rcases hm2 with m | m
  · have hl0 : lie r T P = false := by rw [hlie, m]; rfl
    simp (disch := first | omega | with_unfolding_all rfl) [pf111, env0_eq, h118, h99, spErr, h1, a1, a2, hgT, hP, hmin, m, hl0]
  · have hl0 : lie r T P = true := by rw [hlie, m]; rfl
    simp (disch := first | omega | with_unfolding_all rfl) [pf111, env0_eq, h118, h99, spErr, h1, a1, a2, hgT, hP, hmin, m, hl0]
theorem all_ok {r : Rl} (g : Good r) (h0 : railErr r = 0) (hb : r.s.length ≤ 3000) (s : So) : R tb 94 [vR r, lst .ex [s]] = some (.int .i64 (spErr r s)) := by
  have h52 := railV_ok r hb
  rw [h0] at h52
  have h111 := thereP_ok g s
  obtain ⟨st, sp, so⟩ := s
  obtain ⟨L, hL⟩ : ∃ L, L = [So.mk st sp so] := ⟨_, rfl⟩
  have hLl : L.length = 1 := by rw [hL]; rfl
  have hLg : ∀ q, L[0]'q = ⟨st, sp, so⟩ := by subst hL; intro q; rfl
  rw [← hL]
  clear hL
  refine R_of_G (F := pf94) rfl rfl rfl ?_
  simp (disch := first | omega | with_unfolding_all rfl) [pf94, env0_eq, h52, hLl]
  refine G_loopK [2, 14, 15] (fun (i : Nat) e h => i ≤ 1 ∧ get e 16 = .int .i64 (i : Int) ∧ h = [] ∧ (i = 1 → spErr r ⟨st, sp, so⟩ = 0)) (fun i => 1 - i) (a₀ := 0) ⟨by omega, by simp, rfl, fun h => by omega⟩ ?_
  rintro i e h hk ⟨hi, g16, rfl, hz⟩
  simp at hk
  have hi2 : i = 0 ∨ i = 1 := by omega
  rcases hi2 with rfl | rfl
  · by_cases h0 : spErr r ⟨st, sp, so⟩ = 0
    · simp (disch := first | omega | decide | with_unfolding_all rfl) [hk, g16, h111, h0, hLg]
      exact ⟨1, by omega, by omega, by omega⟩
    · simp (disch := first | omega | decide | with_unfolding_all rfl) [hk, g16, h111, h0, hLg]
  · have h0 := hz rfl
    simp (disch := first | omega | with_unfolding_all rfl) [hk, g16, h0]
theorem next_ok {r : Rl} (g : Good r) (h0 : railErr r = 0) (hb : r.s.length ≤ 3000) (s : So) : R tb 65 [vR r, vSo s] = some (nextV r s) := by
  have h94 := all_ok g h0 hb s
  refine R_of_G (F := pf65) rfl rfl rfl ?_
  by_cases h : spErr r s = 0
  · obtain ⟨h1, h2⟩ := spErr0 h
    have h95 := nextP_ok g h1 h2
    rcases nxtV_cases r s with ⟨q, _⟩ | q <;> rw [q] at h95 <;> simp (disch := first | omega | with_unfolding_all rfl) [pf65, env0_eq, h94, h, h95, nextV, q]
  · simp (disch := first | omega | with_unfolding_all rfl) [pf65, env0_eq, h94, h, nextV]
end Go.Proofs.Ytfocelelbcepnaa
