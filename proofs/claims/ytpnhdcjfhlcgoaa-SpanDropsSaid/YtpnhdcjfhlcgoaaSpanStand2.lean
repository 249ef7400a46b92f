/- Spans: whether a span stands. -/
import Derived.Test.YtpnhdcjfhlcgoaaSpanStand
set_option linter.unusedVariables false
set_option linter.unusedSimpArgs false
set_option maxHeartbeats 4000000
set_option maxRecDepth 20000
namespace Go.Proofs.Ytpnhdcjfhlcgoaa
open Go.Proofs.Ytpnhdcjfhlcgoaa.PM

def badT (l : Ld) (W : Nat) (k low : Int) (t : Int) : Bool := if k = 1 then decide (lo l W t.toNat ≤ low) else decide (low < hi l W t.toNat)
def dirOk (dir sa sb : Int) : Bool := if dir = 0 then decide (sa = 6) && decide (sb = 9) else decide (sa = 12) && decide (sb = 3)
def std (l : Ld) (W : Nat) (k : Int) (a b : Nat) : Bool :=
  decide (lo l W b = lo l W a) && !decide (16 ≤ slp l W a) && !decide (16 ≤ slp l W b) && (decide (k ≠ 1) || dirOk (dirI W a b) (slp l W a) (slp l W b)) && !(btw W a b).any (badT l W k (lo l W a))
theorem dirI_rg (w a b : Int) : dirI w a b = 0 ∨ dirI w a b = 1 := by
  unfold dirI
  repeat' split
  all_goals omega

theorem any_upto {f : Int → Bool} {xs : List Int} (h : ∀ i (hi : i < xs.length), f xs[i] = false) : xs.any f = false := by
  rw [List.any_eq_false]
  intro x hx
  obtain ⟨i, hi, rfl⟩ := List.getElem_of_mem hx
  simp [h i hi]
theorem any_at {f : Int → Bool} {xs : List Int} {i : Nat} (hi : i < xs.length) (h : f xs[i] = true) : xs.any f = true := List.any_eq_true.2 ⟨_, List.getElem_mem hi, h⟩

theorem stands_ok {l : Ld} {W H : Nat} (hf : l.nl ≠ .bor) (g : Good l W H) {k u : Int} {a b : Nat} (hab : a < b) (hb : b < W * H) (hd : byI W a b ≠ 0) : R tb 60 [vL l, vSpan k a b u] = some (.bool (std l W k a b)) := by
  have hwh := wh_le g
  have hst := step_ok g (k := k) (u := u) (a := a) (b := b) (by omega) hb
  have ba := base_ok hf g (t := a) (by omega)
  have bb := base_ok hf g (t := b) hb
  have sa := slope_ok hf g (t := a) (by omega)
  have sb := slope_ok hf g (t := b) hb
  have hbas : ∀ t : Nat, t < W * H → R tb 67 [vL l, .int .i64 (t : Int)] = some (.tup [.int .i64 (lo l W t), .int .i64 (hi l W t)]) := fun t ht => base_ok hf g ht
  have hrng : ∀ i (hi : i < (btw W a b).length), ∃ t : Nat, t < W * H ∧ (btw W a b)[i] = (t : Int) := fun i hi => btw_rg (by have := g.w4; omega) (by omega) (by omega) hd (by omega) hi
  have hbd : ∀ t : Nat, badT l W k (lo l W a) (t : Int) = if k = 1 then decide (lo l W t ≤ lo l W a) else decide (lo l W a < hi l W t) := fun t => rfl
  have hsq := fun (p q : Bool) => sqT_lst (p := p) (q := q) (w := W) (hh := H) (k := k) (a := a) (b := b) (u := u) (nl := l.nl) (ys := l.xs) (by have := g.w4; have := g.w32; omega) (by omega) hd
  have hstd : std l W k a b = (decide (lo l W b = lo l W a) && !decide (16 ≤ slp l W a) && !decide (16 ≤ slp l W b) && (decide (k ≠ 1) || dirOk (dirI W a b) (slp l W a) (slp l W b)) && !(btw W a b).any (badT l W k (lo l W a))) := rfl
  obtain ⟨w, hh, nl, xs⟩ := l
  obtain ⟨rfl, rfl, w4, w32, h4, h32, len, rg⟩ := g
  dsimp only at hf hst ba bb sa sb hbas hsq
  generalize lo ⟨W, H, nl, xs⟩ W = L at *
  generalize hi ⟨W, H, nl, xs⟩ W = U at *
  generalize slp ⟨W, H, nl, xs⟩ W = S at *
  generalize btw W a b = ts at *
  generalize badT ⟨W, H, nl, xs⟩ W k (L a) = bt at *
  have hdr := dirI_rg W a b
  generalize dirI W a b = dr at *
  refine R_of_G (F := pf60) rfl rfl rfl ?_
  simp (disch := first | omega | with_unfolding_all rfl) [pf60, env0_eq, hf, hst, ba, bb]
  by_cases c1 : L b = L a
  case neg =>
    simp (disch := first | omega | with_unfolding_all rfl) [c1, hstd]
  simp (disch := first | omega | with_unfolding_all rfl) [c1, sa, sb]
  by_cases c2 : 16 ≤ S a
  case pos =>
    simp (disch := first | omega | with_unfolding_all rfl) [c1, c2, hstd]
  simp (disch := first | omega | with_unfolding_all rfl) [c2, sb]
  by_cases c3 : 16 ≤ S b
  case pos =>
    simp (disch := first | omega | with_unfolding_all rfl) [c1, c2, c3, hstd]
  simp (disch := first | omega | with_unfolding_all rfl) [c3]
  by_cases c4 : k = 1
  · subst c4
    simp (disch := first | omega | with_unfolding_all rfl) [hst, sa]
    rcases hdr with rfl | rfl
    · simp (disch := first | omega | with_unfolding_all rfl) [evIaA, ixIn, evFaddr]
      by_cases c5 : S a = 6
      case neg =>
        simp (disch := first | omega | with_unfolding_all rfl) [hstd, c1, c2, c3, c5, dirOk]
      simp (disch := first | omega | with_unfolding_all rfl) [c5, sb, evIaA, ixIn, evFaddr]
      by_cases c6 : S b = 9
      case neg =>
        simp (disch := first | omega | with_unfolding_all rfl) [hstd, c1, c2, c3, c5, c6, dirOk]
      simp (disch := first | omega | with_unfolding_all rfl) [c6, between_ok hf]
      refine G_rng (xs := ts) (hsq false false) (fun i h => h = [⟨4, 0, [.bool false]⟩, ⟨3, 0, [.int .i64 (L a)]⟩, ⟨85, 0, [.int .i64 6, .int .i64 12]⟩, ⟨85, 0, [.int .i64 9, .int .i64 3]⟩] ∧ ∀ j (hj : j < ts.length), j < i → bt ts[j] = false) ⟨rfl, fun j _ hj => absurd hj (Nat.not_lt_zero _)⟩ ?_ ?_
      · rintro i hi h' ⟨rfl, hz⟩
        obtain ⟨t, ht, hti⟩ := hrng i hi
        have hbt := hbd t
        rw [← hti] at hbt
        simp (disch := first | omega | with_unfolding_all rfl) [hti, hbas t ht, hf]
        by_cases h1 : L t ≤ L a
        · simp (disch := first | omega | with_unfolding_all rfl) [h1, hstd, c1, c2, c3, any_at (f := bt) hi (by rw [hbt]; simp [h1])]
        · simp (disch := first | omega | with_unfolding_all rfl) [h1]
          intro j hj hji
          rcases Nat.lt_succ_iff_lt_or_eq.1 hji with q | rfl
          · exact hz j hj q
          · rw [hbt]; simp; omega
      · rintro h' ⟨rfl, hz⟩
        have hno : ts.any bt = false := any_upto fun i hi => hz i hi hi
        simp (disch := first | omega | with_unfolding_all rfl) [hstd, c1, c2, c3, c5, c6, dirOk, hno]
    · simp (disch := first | omega | with_unfolding_all rfl) [evIaA, ixIn, evFaddr]
      by_cases c5 : S a = 12
      case neg =>
        simp (disch := first | omega | with_unfolding_all rfl) [hstd, c1, c2, c3, c5, dirOk]
      simp (disch := first | omega | with_unfolding_all rfl) [c5, sb, evIaA, ixIn, evFaddr]
      by_cases c6 : S b = 3
      case neg =>
        simp (disch := first | omega | with_unfolding_all rfl) [hstd, c1, c2, c3, c5, c6, dirOk]
      simp (disch := first | omega | with_unfolding_all rfl) [c6, between_ok hf]
      refine G_rng (xs := ts) (hsq false false) (fun i h => h = [⟨4, 0, [.bool false]⟩, ⟨3, 0, [.int .i64 (L a)]⟩, ⟨85, 0, [.int .i64 6, .int .i64 12]⟩, ⟨85, 0, [.int .i64 9, .int .i64 3]⟩] ∧ ∀ j (hj : j < ts.length), j < i → bt ts[j] = false) ⟨rfl, fun j _ hj => absurd hj (Nat.not_lt_zero _)⟩ ?_ ?_
      · rintro i hi h' ⟨rfl, hz⟩
        obtain ⟨t, ht, hti⟩ := hrng i hi
        have hbt := hbd t
        rw [← hti] at hbt
        simp (disch := first | omega | with_unfolding_all rfl) [hti, hbas t ht, hf]
        by_cases h1 : L t ≤ L a
        · simp (disch := first | omega | with_unfolding_all rfl) [h1, hstd, c1, c2, c3, any_at (f := bt) hi (by rw [hbt]; simp [h1])]
        · simp (disch := first | omega | with_unfolding_all rfl) [h1]
          intro j hj hji
          rcases Nat.lt_succ_iff_lt_or_eq.1 hji with q | rfl
          · exact hz j hj q
          · rw [hbt]; simp; omega
      · rintro h' ⟨rfl, hz⟩
        have hno : ts.any bt = false := any_upto fun i hi => hz i hi hi
        simp (disch := first | omega | with_unfolding_all rfl) [hstd, c1, c2, c3, c5, c6, dirOk, hno]
  · simp (disch := first | omega | with_unfolding_all rfl) [c4, between_ok hf]
    refine G_rng (xs := ts) (hsq false false) (fun i h => h = [⟨4, 0, [.bool false]⟩, ⟨3, 0, [.int .i64 (L a)]⟩] ∧ ∀ j (hj : j < ts.length), j < i → bt ts[j] = false) ⟨rfl, fun j _ hj => absurd hj (Nat.not_lt_zero _)⟩ ?_ ?_
    · rintro i hi h' ⟨rfl, hz⟩
      obtain ⟨t, ht, hti⟩ := hrng i hi
      have hbt := hbd t
      rw [← hti] at hbt
      simp (disch := first | omega | with_unfolding_all rfl) [hti, hbas t ht, hf, c4]
      refine G_brd (fun h1 => ?_) (fun h1 => ?_)
      · simp (disch := first | omega | with_unfolding_all rfl) [hstd, c1, c2, c3, c4, any_at (f := bt) hi (by rw [hbt]; simp [c4, h1])]
      · simp (disch := first | omega | with_unfolding_all rfl) [h1]
        intro j hj hji
        rcases Nat.lt_succ_iff_lt_or_eq.1 hji with q | rfl
        · exact hz j hj q
        · rw [hbt]; simp [c4, h1]
    · rintro h' ⟨rfl, hz⟩
      have hno : ts.any bt = false := any_upto fun i hi => hz i hi hi
      simp (disch := first | omega | with_unfolding_all rfl) [hstd, c1, c2, c3, c4, hno]
end Go.Proofs.Ytpnhdcjfhlcgoaa
