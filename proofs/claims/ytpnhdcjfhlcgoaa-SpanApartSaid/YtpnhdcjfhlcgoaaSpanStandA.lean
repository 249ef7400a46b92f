/- Several texts in one: SpanStand, SpanStand2. -/
import Derived.Test.YtpnhdcjfhlcgoaaSpanSlopeA
section
set_option linter.unusedVariables false
set_option linter.unusedSimpArgs false
set_option maxHeartbeats 4000000
set_option maxRecDepth 20000
namespace Go.Proofs.Ytpnhdcjfhlcgoaa
open Go.Proofs.Ytpnhdcjfhlcgoaa.PM

theorem wh_le {l : Ld} {W H : Nat} (g : Good l W H) : W * H ≤ 1024 := Nat.mul_le_mul g.w32 g.h32
theorem step_ok {l : Ld} {W H : Nat} (g : Good l W H) {k u : Int} {a b : Nat} (ha : a < W * H) (hb : b < W * H) : R tb 39 [vL l, vSpan k a b u] = some (.tup [.int .i64 (byI W a b), .int .i64 (dirI W a b)]) := by
  have := wh_le g
  have h4 := g.w4
  have := step_gen (T := tb) (fun _ => rfl) rfl (w := l.w) (h := l.h) (k := k) (a := a) (b := b) (u := u) (nl := l.nl) (xs := l.xs) (by rw [g.w]; omega) (by omega) (by omega) (by omega) (by omega)
  rw [this, g.w]
def gapI (w a b : Int) : Int := if a.tdiv w = b.tdiv w then 1 else if a.tmod w = b.tmod w then w else 0
theorem byI_gap (w a b : Int) : byI w a b = if b ≤ a then 0 else gapI w a b := rfl
theorem gapI_eq1 {w a b : Int} (hw : 1 < w) : gapI w a b = 1 ↔ a.tdiv w = b.tdiv w := by
  unfold gapI
  constructor
  · intro h
    split at h
    · assumption
    split at h <;> omega
  · intro h; rw [if_pos h]
theorem gap_ok {l : Ld} {W H : Nat} (hf : l.nl ≠ .bor) (g : Good l W H) {k u : Int} {a b : Nat} (ha : a < W * H) (hb : b < W * H) : R tb 36 [vL l, vSpan k a b u] = some (.int .i64 (gapI W a b)) := by
  have := wh_le g
  have h4 := g.w4
  obtain ⟨w, hh, nl, xs⟩ := l
  obtain ⟨rfl, rfl, w4, w32, h4, h32, len, rg⟩ := g
  dsimp only at hf
  have hw0 : ¬ W = 0 := by omega
  have e1 := wrap_dv (a := a) (w := W) (by omega) (by omega) (by omega)
  have e2 := wrap_dv (a := b) (w := W) (by omega) (by omega) (by omega)
  rw [tdiv_nn (by omega)] at e1 e2
  have hg : gapI W a b = if (a : Int) / (W : Int) = (b : Int) / (W : Int) then 1 else if (a : Int).tmod W = (b : Int).tmod W then (W : Int) else 0 := by
    unfold gapI
    rw [tdiv_nn (by omega), tdiv_nn (by omega)]
  rw [hg]
  refine R_of_G (F := pf36) rfl rfl rfl ?_
  simp (disch := first | omega | with_unfolding_all rfl) [pf36, env0_eq, hf, hw0, e1, e2]
  refine G_brd (fun h1 => ?_) (fun h1 => ?_)
  · simp (disch := first | omega | with_unfolding_all rfl) [h1]
  simp (disch := first | omega | with_unfolding_all rfl) [hw0, h1]
  refine G_brd (fun h2 => ?_) (fun h2 => ?_)
  · simp (disch := first | omega | with_unfolding_all rfl) [h1, h2]
  · simp (disch := first | omega | with_unfolding_all rfl) [h1, h2]
theorem tile_ok {l : Ld} {W H : Nat} (hf : l.nl ≠ .bor) (g : Good l W H) {n : Int} : R tb 42 [vL l, .int .i64 n] = some (.bool (decide (0 ≤ n ∧ n < ((W * H : Nat) : Int)))) := by
  have := wh_le g
  obtain ⟨w, hh, nl, xs⟩ := l
  obtain ⟨rfl, rfl, w4, w32, h4, h32, len, rg⟩ := g
  dsimp only at hf
  have hm : (W : Int) * (H : Int) = ((W * H : Nat) : Int) := by push_cast; rfl
  generalize W * H = N at *
  refine R_of_G (F := pf42) rfl rfl rfl ?_
  simp (disch := first | omega | with_unfolding_all rfl) [pf42, env0_eq, hf]
  refine G_grdd (fun h => ?_) (fun h => ?_)
  · simp (disch := first | omega | with_unfolding_all rfl) [h, hm]
  · simp (disch := first | omega | with_unfolding_all rfl) [h, hm]

/-! ### How many tiles lie between -/
theorem btw_cnt {W : Nat} {a b : Nat} (hW : 0 < W) (hab : a < b) (hd : byI W a b ≠ 0) : ((b : Int) - a).tdiv (byI W a b) - 1 = (btw W a b).length := by
  rw [btw_len]
  obtain ⟨h0, h1⟩ := byI_pos (by omega) hd
  have hdv : byI W a b ∣ (b : Int) - a := by
    unfold byI at *
    rw [if_neg (by omega)] at *
    split
    · exact Int.one_dvd _
    · rename_i h
      rw [if_neg h] at hd
      split
      · rename_i h2
        rw [tmod_nn (by omega), tmod_nn (by omega)] at h2
        have := Int.emod_emod_of_dvd ((b : Int) - a) (Int.dvd_refl (W : Int))
        refine Int.dvd_of_emod_eq_zero ?_
        rw [Int.sub_emod, h2, Int.sub_self, Int.zero_emod]
      · rename_i h2; rw [if_neg h2] at hd; exact absurd rfl hd
  generalize byI W a b = d at *
  obtain ⟨m, hm⟩ := hdv
  have hmp : 0 < m := by
    rcases Int.lt_or_le 0 m with h | h
    · exact h
    · have := Int.mul_nonpos_of_nonneg_of_nonpos (Int.le_of_lt h0) h
      omega
  rw [tdiv_nn (by omega), show ((b : Int) - a - 1) = (d - 1) + d * (m - 1) from by rw [hm, Int.mul_sub]; omega, hm, Int.mul_ediv_cancel_left _ (by omega), Int.add_mul_ediv_left _ _ (by omega), Int.ediv_eq_zero_of_lt (by omega) (by omega)]
  omega
theorem btw_rg {W a b : Int} {N : Nat} (hW : 0 < W) (ha : 0 ≤ a) (hab : a < b) (hd : byI W a b ≠ 0) (hb : b ≤ N) {i : Nat} (hi : i < (btw W a b).length) : ∃ t : Nat, t < N ∧ (btw W a b)[i] = (t : Int) := by
  obtain ⟨h0, h1⟩ := byI_pos hW hd
  have h2 := (btw_lt h0 hab i).2 hi
  have h3 : 0 ≤ ((i : Int) + 1) * byI W a b := Int.mul_nonneg (by omega) (by omega)
  rw [btw_get hi]
  exact ⟨(a + ((i : Int) + 1) * byI W a b).toNat, by omega, by omega⟩
theorem length_ok {l : Ld} {W H : Nat} (hf : l.nl ≠ .bor) (g : Good l W H) {k u : Int} {a b : Nat} (hab : a < b) (hb : b < W * H) (hd : byI W a b ≠ 0) : R tb 40 [vL l, vSpan k a b u] = some (.int .i64 ((btw W a b).length : Int)) := by
  have := wh_le g
  have hst := step_ok g (k := k) (u := u) (a := a) (b := b) (by omega) hb
  rw [← btw_cnt (by have := g.w4; omega) hab hd]
  obtain ⟨w, hh, nl, xs⟩ := l
  obtain ⟨rfl, rfl, w4, w32, h4, h32, len, rg⟩ := g
  dsimp only at hf hst
  obtain ⟨h0, h1⟩ := byI_pos (by omega) hd
  have hw : IntKind.wrap .i64 (((b : Int) - a).tdiv (byI W a b)) = ((b : Int) - a).tdiv (byI W a b) := wrap_dv h0 (by omega) (by omega)
  have h2 : 0 ≤ ((b : Int) - a).tdiv (byI W a b) := by rw [tdiv_nn (by omega)]; exact Int.ediv_nonneg (by omega) (by omega)
  have h3 : ((b : Int) - a).tdiv (byI W a b) ≤ (b : Int) - a := by rw [tdiv_nn (by omega)]; exact Int.ediv_le_self _ (by omega)
  generalize byI W a b = d at *
  refine R_of_G (F := pf40) rfl rfl rfl ?_
  simp (disch := first | omega | with_unfolding_all rfl) [pf40, env0_eq, hf, hst, hd, hw]
theorem all_intB : ∀ ys : List Int, (cl ys).all intB = true
  | [] => rfl
  | y :: ys => by rw [cl_cons, List.all_append, all_intB ys]; rfl
theorem sqT_lst {p q : Bool} {w hh k a b u : Int} {nl : Nl} {ys : List Int} (hw : 0 < w ∧ w < 1000000) (hab : 0 ≤ a ∧ a < b ∧ b < 1000000000000) (hd : byI w a b ≠ 0) :
    sqT 64 [.pptr p [.int .i64 w, .int .i64 hh, lst nl ys] 0, .pptr q [.int .i64 k, .int .i64 a, .int .i64 b, .int .i64 u] 0] = some (btw w a b) := by
  show (if (64 : Nat) = 64 ∧ (0 < w ∧ w < 1000000) ∧ (0 ≤ a ∧ a < b ∧ b < 1000000000000) ∧ byI w a b ≠ 0 ∧ (cl ys).all intB = true then some (btw w a b) else none) = _
  rw [if_pos ⟨rfl, hw, hab, hd, all_intB ys⟩]
theorem between_ok {w hh k a b u : Int} {nl : Nl} {ys : List Int} (hnl : nl ≠ .bor) (H : Hp) : RO tb 48 [vLand w hh nl ys, vSpan k a b u] H =
    some (.clo (.func 64) [] [.pptr false [.int .i64 w, .int .i64 hh, lst nl ys] 0, .pptr false [.int .i64 k, .int .i64 a, .int .i64 b, .int .i64 u] 0], H) := by
  refine RO_of_G (F := pf48) rfl rfl rfl ?_
  simp (disch := first | omega | with_unfolding_all rfl) [pf48, env0_eq, hnl]
end Go.Proofs.Ytpnhdcjfhlcgoaa
end

section
set_option linter.unusedVariables false
set_option linter.unusedSimpArgs false
set_option maxHeartbeats 4000000
set_option maxRecDepth 20000
namespace Go.Proofs.Ytpnhdcjfhlcgoaa
open Go.Proofs.Ytpnhdcjfhlcgoaa.PM

def badT (l : Ld) (W : Nat) (k low : Int) (t : Int) : Bool := if k = 1 then decide (lo l W t.toNat ≤ low) else decide (low < hi l W t.toNat)
def dirOk (dir sa sb : Int) : Bool := if dir = 0 then decide (sa = 6) && decide (sb = 9) else decide (sa = 12) && decide (sb = 3)
def std (l : Ld) (W : Nat) (k : Int) (a b : Nat) : Bool :=
  decide (lo l W b = lo l W a) && !decide (16 ≤ slp l W a) && !decide (16 ≤ slp l W b) && (decide (k ≠ 1) || dirOk (dirI W a b) (slp l W a) (slp l W b)) && !(btw W a b).any (badT l W k (lo l W a))
theorem dirI_rg (w a b : Int) : dirI w a b = 0 ∨ dirI w a b = 1 := by
  unfold dirI
  repeat' split
  all_goals omega

theorem any_upto {f : Int → Bool} {xs : List Int} (h : ∀ i (hi : i < xs.length), f xs[i] = false) : xs.any f = false := by
  rw [List.any_eq_false]
  intro x hx
  obtain ⟨i, hi, rfl⟩ := List.getElem_of_mem hx
  simp [h i hi]
theorem any_at {f : Int → Bool} {xs : List Int} {i : Nat} (hi : i < xs.length) (h : f xs[i] = true) : xs.any f = true := List.any_eq_true.2 ⟨_, List.getElem_mem hi, h⟩

theorem stands_ok {l : Ld} {W H : Nat} (hf : l.nl ≠ .bor) (g : Good l W H) {k u : Int} {a b : Nat} (hab : a < b) (hb : b < W * H) (hd : byI W a b ≠ 0) : R tb 60 [vL l, vSpan k a b u] = some (.bool (std l W k a b)) := by
  have hwh := wh_le g
  have hst := step_ok g (k := k) (u := u) (a := a) (b := b) (by omega) hb
  have ba := base_ok hf g (t := a) (by omega)
  have bb := base_ok hf g (t := b) hb
  have sa := slope_ok hf g (t := a) (by omega)
  have sb := slope_ok hf g (t := b) hb
  have hbas : ∀ t : Nat, t < W * H → R tb 67 [vL l, .int .i64 (t : Int)] = some (.tup [.int .i64 (lo l W t), .int .i64 (hi l W t)]) := fun t ht => base_ok hf g ht
  have hrng : ∀ i (hi : i < (btw W a b).length), ∃ t : Nat, t < W * H ∧ (btw W a b)[i] = (t : Int) := fun i hi => btw_rg (by have := g.w4; omega) (by omega) (by omega) hd (by omega) hi
  have hbd : ∀ t : Nat, badT l W k (lo l W a) (t : Int) = if k = 1 then decide (lo l W t ≤ lo l W a) else decide (lo l W a < hi l W t) := fun t => rfl
  have hsq := fun (p q : Bool) => sqT_lst (p := p) (q := q) (w := W) (hh := H) (k := k) (a := a) (b := b) (u := u) (nl := l.nl) (ys := l.xs) (by have := g.w4; have := g.w32; omega) (by omega) hd
  have hstd : std l W k a b = (decide (lo l W b = lo l W a) && !decide (16 ≤ slp l W a) && !decide (16 ≤ slp l W b) && (decide (k ≠ 1) || dirOk (dirI W a b) (slp l W a) (slp l W b)) && !(btw W a b).any (badT l W k (lo l W a))) := rfl
  obtain ⟨w, hh, nl, xs⟩ := l
  obtain ⟨rfl, rfl, w4, w32, h4, h32, len, rg⟩ := g
  dsimp only at hf hst ba bb sa sb hbas hsq
  generalize lo ⟨W, H, nl, xs⟩ W = L at *
  generalize hi ⟨W, H, nl, xs⟩ W = U at *
  generalize slp ⟨W, H, nl, xs⟩ W = S at *
  generalize btw W a b = ts at *
  generalize badT ⟨W, H, nl, xs⟩ W k (L a) = bt at *
  have hdr := dirI_rg W a b
  generalize dirI W a b = dr at *
  refine R_of_G (F := pf60) rfl rfl rfl ?_
  simp (disch := first | omega | with_unfolding_all rfl) [pf60, env0_eq, hf, hst, ba, bb]
  by_cases c1 : L b = L a
  case neg =>
    simp (disch := first | omega | with_unfolding_all rfl) [c1, hstd]
  simp (disch := first | omega | with_unfolding_all rfl) [c1, sa, sb]
  by_cases c2 : 16 ≤ S a
  case pos =>
    simp (disch := first | omega | with_unfolding_all rfl) [c1, c2, hstd]
  simp (disch := first | omega | with_unfolding_all rfl) [c2, sb]
  by_cases c3 : 16 ≤ S b
  case pos =>
    simp (disch := first | omega | with_unfolding_all rfl) [c1, c2, c3, hstd]
  simp (disch := first | omega | with_unfolding_all rfl) [c3]
  by_cases c4 : k = 1
  · subst c4
    simp (disch := first | omega | with_unfolding_all rfl) [hst, sa]
    rcases hdr with rfl | rfl
    · simp (disch := first | omega | with_unfolding_all rfl) [evIaA, ixIn, evFaddr]
      by_cases c5 : S a = 6
      case neg =>
        simp (disch := first | omega | with_unfolding_all rfl) [hstd, c1, c2, c3, c5, dirOk]
      simp (disch := first | omega | with_unfolding_all rfl) [c5, sb, evIaA, ixIn, evFaddr]
      by_cases c6 : S b = 9
      case neg =>
        simp (disch := first | omega | with_unfolding_all rfl) [hstd, c1, c2, c3, c5, c6, dirOk]
      simp (disch := first | omega | with_unfolding_all rfl) [c6, between_ok hf]
      refine G_rng (xs := ts) (hsq false false) (fun i h => h = [⟨4, 0, [.bool false]⟩, ⟨3, 0, [.int .i64 (L a)]⟩, ⟨85, 0, [.int .i64 6, .int .i64 12]⟩, ⟨85, 0, [.int .i64 9, .int .i64 3]⟩] ∧ ∀ j (hj : j < ts.length), j < i → bt ts[j] = false) ⟨rfl, fun j _ hj => absurd hj (Nat.not_lt_zero _)⟩ ?_ ?_
      · rintro i hi h' ⟨rfl, hz⟩
        obtain ⟨t, ht, hti⟩ := hrng i hi
        have hbt := hbd t
        rw [← hti] at hbt
        simp (disch := first | omega | with_unfolding_all rfl) [hti, hbas t ht, hf]
        by_cases h1 : L t ≤ L a
        · simp (disch := first | omega | with_unfolding_all rfl) [h1, hstd, c1, c2, c3, any_at (f := bt) hi (by rw [hbt]; simp [h1])]
        · simp (disch := first | omega | with_unfolding_all rfl) [h1]
          intro j hj hji
          rcases Nat.lt_succ_iff_lt_or_eq.1 hji with q | rfl
          · exact hz j hj q
          · rw [hbt]; simp; omega
      · rintro h' ⟨rfl, hz⟩
        have hno : ts.any bt = false := any_upto fun i hi => hz i hi hi
        simp (disch := first | omega | with_unfolding_all rfl) [hstd, c1, c2, c3, c5, c6, dirOk, hno]
    · simp (disch := first | omega | with_unfolding_all rfl) [evIaA, ixIn, evFaddr]
      by_cases c5 : S a = 12
      case neg =>
        simp (disch := first | omega | with_unfolding_all rfl) [hstd, c1, c2, c3, c5, dirOk]
      simp (disch := first | omega | with_unfolding_all rfl) [c5, sb, evIaA, ixIn, evFaddr]
      by_cases c6 : S b = 3
      case neg =>
        simp (disch := first | omega | with_unfolding_all rfl) [hstd, c1, c2, c3, c5, c6, dirOk]
      simp (disch := first | omega | with_unfolding_all rfl) [c6, between_ok hf]
      refine G_rng (xs := ts) (hsq false false) (fun i h => h = [⟨4, 0, [.bool false]⟩, ⟨3, 0, [.int .i64 (L a)]⟩, ⟨85, 0, [.int .i64 6, .int .i64 12]⟩, ⟨85, 0, [.int .i64 9, .int .i64 3]⟩] ∧ ∀ j (hj : j < ts.length), j < i → bt ts[j] = false) ⟨rfl, fun j _ hj => absurd hj (Nat.not_lt_zero _)⟩ ?_ ?_
      · rintro i hi h' ⟨rfl, hz⟩
        obtain ⟨t, ht, hti⟩ := hrng i hi
        have hbt := hbd t
        rw [← hti] at hbt
        simp (disch := first | omega | with_unfolding_all rfl) [hti, hbas t ht, hf]
        by_cases h1 : L t ≤ L a
        · simp (disch := first | omega | with_unfolding_all rfl) [h1, hstd, c1, c2, c3, any_at (f := bt) hi (by rw [hbt]; simp [h1])]
        · simp (disch := first | omega | with_unfolding_all rfl) [h1]
          intro j hj hji
          rcases Nat.lt_succ_iff_lt_or_eq.1 hji with q | rfl
          · exact hz j hj q
          · rw [hbt]; simp; omega
      · rintro h' ⟨rfl, hz⟩
        have hno : ts.any bt = false := any_upto fun i hi => hz i hi hi
        simp (disch := first | omega | with_unfolding_all rfl) [hstd, c1, c2, c3, c5, c6, dirOk, hno]
  · simp (disch := first | omega | with_unfolding_all rfl) [c4, between_ok hf]
    refine G_rng (xs := ts) (hsq false false) (fun i h => h = [⟨4, 0, [.bool false]⟩, ⟨3, 0, [.int .i64 (L a)]⟩] ∧ ∀ j (hj : j < ts.length), j < i → bt ts[j] = false) ⟨rfl, fun j _ hj => absurd hj (Nat.not_lt_zero _)⟩ ?_ ?_
    · rintro i hi h' ⟨rfl, hz⟩
      obtain ⟨t, ht, hti⟩ := hrng i hi
      have hbt := hbd t
      rw [← hti] at hbt
      simp (disch := first | omega | with_unfolding_all rfl) [hti, hbas t ht, hf, c4]
      refine G_brd (fun h1 => ?_) (fun h1 => ?_)
      · simp (disch := first | omega | with_unfolding_all rfl) [hstd, c1, c2, c3, c4, any_at (f := bt) hi (by rw [hbt]; simp [c4, h1])]
      · simp (disch := first | omega | with_unfolding_all rfl) [h1]
        intro j hj hji
        rcases Nat.lt_succ_iff_lt_or_eq.1 hji with q | rfl
        · exact hz j hj q
        · rw [hbt]; simp [c4, h1]
    · rintro h' ⟨rfl, hz⟩
      have hno : ts.any bt = false := any_upto fun i hi => hz i hi hi
      simp (disch := first | omega | with_unfolding_all rfl) [hstd, c1, c2, c3, c4, hno]
end Go.Proofs.Ytpnhdcjfhlcgoaa
end
