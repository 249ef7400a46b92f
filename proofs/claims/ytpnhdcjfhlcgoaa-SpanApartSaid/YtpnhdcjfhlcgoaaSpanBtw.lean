/- Spans: the reference's list of the tiles between; prices. -/
import Derived.Test.YtpnhdcjfhlcgoaaSpanCheck
set_option linter.unusedVariables false
set_option linter.unusedSimpArgs false
set_option maxHeartbeats 4000000
set_option maxRecDepth 20000
namespace Go.Proofs.Ytpnhdcjfhlcgoaa
open Go.Proofs.Ytpnhdcjfhlcgoaa.PM

theorem btwR_ok {l : Ld} {W H : Nat} (hf : l.nl ≠ .bor) (g : Good l W H) {k u : Int} {a b : Nat} (hab : a < b) (hb : b < W * H) (hd : gapI W a b ≠ 0) : R tb 37 [vL l, vSpan k a b u] = some (lst .any (btw W a b)) := by
  have := wh_le g
  have hgp := gap_ok hf g (k := k) (u := u) (a := a) (b := b) (by omega) hb
  have hd' : byI W a b ≠ 0 := by rw [byI_gap, if_neg (by omega)]; exact hd
  have hbg : byI W a b = gapI W a b := by rw [byI_gap, if_neg (by omega)]
  obtain ⟨h0, h1⟩ := byI_pos (by have := g.w4; omega) hd'
  have hlt := fun i => btw_lt (w := W) (a := a) (b := b) h0 (by omega) i
  have hget := fun i hi => btw_get (w := W) (a := a) (b := b) (i := i) hi
  rw [hbg] at hlt hget h0 h1
  obtain ⟨w, hh, nl, xs⟩ := l
  obtain ⟨rfl, rfl, w4, w32, h4, h32, len, rg⟩ := g
  dsimp only at hf hgp
  generalize btw W a b = ts at *
  generalize gapI W a b = d at *
  refine R_of_G (F := pf37) rfl rfl rfl ?_
  simp (disch := first | omega | with_unfolding_all rfl) [pf37, env0_eq, hf, hgp, hd]
  have hlen : ts.length ≤ 1024 := by
    rcases Nat.lt_or_ge 1024 ts.length with q | q
    · exfalso
      have h2 := (hlt 1024).2 q
      have h3 : (1024 + 1) * 1 ≤ ((1024 : Nat) + 1 : Int) * d := Int.mul_le_mul_of_nonneg_left (by omega) (by omega)
      omega
    · exact q
  refine G_loop (fun i e h => i ≤ ts.length ∧ h = [bk 3 i (ts.take i)] ∧ get e 3 = .pptr false [.int .i64 k, .int .i64 (a : Int), .int .i64 (b : Int), .int .i64 u] 0 ∧ get e 5 = .int .i64 d ∧ get e 6 = mls Int 0 i i ∧ get e 7 = .int .i64 ((a : Int) + ((i : Int) + 1) * d)) (fun i => ts.length - i) (a₀ := 0) ?_ ?_
  · simp
  rintro i e h ⟨hi, rfl, g3, g5, g6, g7⟩
  have hx := hlt i
  have hxn : ((i : Int) + 1 + 1) * d = ((i : Int) + 1) * d + d := by rw [Int.add_mul, Int.one_mul]
  have hx0 : 0 ≤ ((i : Int) + 1) * d := Int.mul_nonneg (by omega) (by omega)
  have hgi := fun hi => hget i hi
  generalize ((i : Int) + 1) * d = x at *
  simp (disch := first | omega | with_unfolding_all rfl) [g3, g5, g6, g7]
  refine G_brd (fun h => ?_) (fun h => ?_)
  · have hil := hx.1 h
    have htk : ts.take (i + 1) = ts.take i ++ [(a : Int) + x] := by rw [List.take_succ_eq_append_getElem hil, hgi hil]
    have hap := evApp_mls (α := Int) (H := [bk 3 i (ts.take i)]) (e := 3) (s := 1) (bytes := 8) (b := 0) (gen := i) (n := i) (x := lst .ex [(a : Int) + x]) (ys := [(a : Int) + x]) rfl rfl (by simp) rfl (by rw [List.length_take]; omega) (by simp; omega)
    rw [evApp_mls_lst, if_pos (show (1 : Nat) = Enc.sz Int from rfl), if_neg (by simp), ← htk] at hap
    have hap2 : appB Int (some (bk 3 i (List.take i ts))) [bk 3 i (List.take i ts)] 0 i i 3 8 [(a : Int) + x] = some (mls Int 0 (i + 1) (i + 1), [bk 3 (i + 1) (ts.take (i + 1))]) := hap
    have hxs : x ≤ b := by omega
    have hdb : d ≤ 1024 := by omega
    simp (disch := first | omega | with_unfolding_all rfl) [h, Nat.min_eq_left hi, hap2]
    exact ⟨i + 1, by omega, by omega, ⟨rfl, rfl⟩, rfl, by push_cast; rw [hxn]; omega⟩
  · have hil : i = ts.length := by
      rcases Nat.lt_or_ge i ts.length with q | q
      · exact absurd (hx.2 q) h
      · omega
    subst hil
    simp (disch := first | omega | with_unfolding_all rfl) [h]

/-- The price of a span over so many tiles. -/
def prI (k : Int) (n : Nat) : Int := (1 + k) * 1000 * n + ((n : Int) * n * 1000).tdiv 4
theorem prI_rg {k : Int} {n : Nat} (hk : k = 0 ∨ k = 1) (hn : n ≤ 10) : 0 ≤ (n : Int) * n ∧ (n : Int) * n ≤ 100 := by
  have : (n : Int) * n ≤ 10 * 10 := Int.mul_le_mul (by omega) (by omega) (by omega) (by omega)
  exact ⟨Int.mul_nonneg (by omega) (by omega), by omega⟩
theorem price_ok {l : Ld} {W H : Nat} (hf : l.nl ≠ .bor) (g : Good l W H) {k u : Int} {a b : Nat} (hk : k = 0 ∨ k = 1) (hab : a < b) (hb : b < W * H) (hd : byI W a b ≠ 0) (hn : (btw W a b).length ≤ 10) : R tb 34 [vL l, vSpan k a b u] = some (.int .i64 (prI k (btw W a b).length)) := by
  have hln := length_ok hf g (k := k) (u := u) hab hb hd
  obtain ⟨w, hh, nl, xs⟩ := l
  dsimp only at hf hln
  generalize (btw W a b).length = n at *
  obtain ⟨h1, h2⟩ := prI_rg hk hn
  have h4 : IntKind.wrap .i64 (((n : Int) * n * 1000).tdiv 4) = ((n : Int) * n * 1000).tdiv 4 := wrap_dv (by omega) (by omega) (by omega)
  have h5 : 0 ≤ ((n : Int) * n * 1000).tdiv 4 ∧ ((n : Int) * n * 1000).tdiv 4 ≤ 100000 := by rw [tdiv_nn (by omega)]; omega
  unfold prI
  generalize hm : (n : Int) * n = m at *
  rcases hk with rfl | rfl
  · refine R_of_G (F := pf34) rfl rfl rfl ?_
    simp (disch := first | omega | with_unfolding_all rfl) [pf34, env0_eq, hf, hln, hm, h4]
  · refine R_of_G (F := pf34) rfl rfl rfl ?_
    simp (disch := first | omega | with_unfolding_all rfl) [pf34, env0_eq, hf, hln, hm, h4]
theorem priceR_ok {l : Ld} {W H : Nat} (hf : l.nl ≠ .bor) (g : Good l W H) {k u : Int} {a b : Nat} (hk : k = 0 ∨ k = 1) (hab : a < b) (hb : b < W * H) (hd : byI W a b ≠ 0) (hn : (btw W a b).length ≤ 10) : R tb 33 [vL l, vSpan k a b u] = some (.int .i64 (prI k (btw W a b).length)) := by
  have hln := btwR_ok hf g (k := k) (u := u) hab hb (by rw [byI_gap, if_neg (by omega)] at hd; exact hd)
  obtain ⟨w, hh, nl, xs⟩ := l
  dsimp only at hf hln
  generalize hts : btw W a b = ts at *
  generalize hnn : ts.length = n at *
  obtain ⟨h1, h2⟩ := prI_rg hk hn
  have h4 : IntKind.wrap .i64 (((n : Int) * n * 1000).tdiv 4) = ((n : Int) * n * 1000).tdiv 4 := wrap_dv (by omega) (by omega) (by omega)
  have h5 : 0 ≤ ((n : Int) * n * 1000).tdiv 4 ∧ ((n : Int) * n * 1000).tdiv 4 ≤ 100000 := by rw [tdiv_nn (by omega)]; omega
  unfold prI
  generalize hm : (n : Int) * n = m at *
  rcases hk with rfl | rfl
  · refine R_of_G (F := pf33) rfl rfl rfl ?_
    simp (disch := first | omega | with_unfolding_all rfl) [pf33, env0_eq, hf, hln, hnn, hm, h4]
  · refine R_of_G (F := pf33) rfl rfl rfl ?_
    simp (disch := first | omega | with_unfolding_all rfl) [pf33, env0_eq, hf, hln, hnn, hm, h4]
end Go.Proofs.Ytpnhdcjfhlcgoaa
