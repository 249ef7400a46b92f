/- Spans: gaps, lengths, whether a span stands. -/
import Derived.Test.YtpnhdcjfhlcgoaaSpanSlopeR
set_option linter.unusedVariables false
set_option linter.unusedSimpArgs false
set_option maxHeartbeats 4000000
set_option maxRecDepth 20000
namespace Go.Proofs.Ytpnhdcjfhlcgoaa
open Go.Proofs.Ytpnhdcjfhlcgoaa.PM

theorem wh_le {l : Ld} {W H : Nat} (g : Good l W H) : W * H ≤ 1024 := Nat.mul_le_mul g.w32 g.h32
theorem step_ok {l : Ld} {W H : Nat} (g : Good l W H) {k u : Int} {a b : Nat} (ha : a < W * H) (hb : b < W * H) : R tb 39 [vL l, vSpan k a b u] = some (.tup [.int .i64 (byI W a b), .int .i64 (dirI W a b)]) := by
  have := wh_le g
  have h4 := g.w4
  have := step_gen (T := tb) (fun _ => rfl) rfl (w := l.w) (h := l.h) (k := k) (a := a) (b := b) (u := u) (nl := l.nl) (xs := l.xs) (by rw [g.w]; omega) (by omega) (by omega) (by omega) (by omega)
  rw [this, g.w]
def gapI (w a b : Int) : Int := if a.tdiv w = b.tdiv w then 1 else if a.tmod w = b.tmod w then w else 0
theorem byI_gap (w a b : Int) : byI w a b = if b ≤ a then 0 else gapI w a b := rfl
theorem gapI_eq1 {w a b : Int} (hw : 1 < w) : gapI w a b = 1 ↔ a.tdiv w = b.tdiv w := by
  unfold gapI
  constructor
  · intro h
    split at h
    · assumption
    split at h <;> omega
  · intro h; rw [if_pos h]
theorem gap_ok {l : Ld} {W H : Nat} (hf : l.nl ≠ .bor) (g : Good l W H) {k u : Int} {a b : Nat} (ha : a < W * H) (hb : b < W * H) : R tb 36 [vL l, vSpan k a b u] = some (.int .i64 (gapI W a b)) := by
  have := wh_le g
  have h4 := g.w4
  obtain ⟨w, hh, nl, xs⟩ := l
  obtain ⟨rfl, rfl, w4, w32, h4, h32, len, rg⟩ := g
  dsimp only at hf
  have hw0 : ¬ W = 0 := by omega
  have e1 := wrap_dv (a := a) (w := W) (by omega) (by omega) (by omega)
  have e2 := wrap_dv (a := b) (w := W) (by omega) (by omega) (by omega)
  rw [tdiv_nn (by omega)] at e1 e2
  have hg : gapI W a b = if (a : Int) / (W : Int) = (b : Int) / (W : Int) then 1 else if (a : Int).tmod W = (b : Int).tmod W then (W : Int) else 0 := by
    unfold gapI
    rw [tdiv_nn (by omega), tdiv_nn (by omega)]
  rw [hg]
  refine R_of_G (F := pf36) rfl rfl rfl ?_
  simp (disch := first | omega | with_unfolding_all rfl) [pf36, env0_eq, hf, hw0, e1, e2]
  refine G_brd (fun h1 => ?_) (fun h1 => ?_)
  · simp (disch := first | omega | with_unfolding_all rfl) [h1]
  simp (disch := first | omega | with_unfolding_all rfl) [hw0, h1]
  refine G_brd (fun h2 => ?_) (fun h2 => ?_)
  · simp (disch := first | omega | with_unfolding_all rfl) [h1, h2]
  · simp (disch := first | omega | with_unfolding_all rfl) [h1, h2]
theorem tile_ok {l : Ld} {W H : Nat} (hf : l.nl ≠ .bor) (g : Good l W H) {n : Int} : R tb 42 [vL l, .int .i64 n] = some (.bool (decide (0 ≤ n ∧ n < ((W * H : Nat) : Int)))) := by
  have := wh_le g
  obtain ⟨w, hh, nl, xs⟩ := l
  obtain ⟨rfl, rfl, w4, w32, h4, h32, len, rg⟩ := g
  dsimp only at hf
  have hm : (W : Int) * (H : Int) = ((W * H : Nat) : Int) := by push_cast; rfl
  generalize W * H = N at *
  refine R_of_G (F := pf42) rfl rfl rfl ?_
  simp (disch := first | omega | with_unfolding_all rfl) [pf42, env0_eq, hf]
  refine G_grdd (fun h => ?_) (fun h => ?_)
  · simp (disch := first | omega | with_unfolding_all rfl) [h, hm]
  · simp (disch := first | omega | with_unfolding_all rfl) [h, hm]

/-! ### How many tiles lie between -/
theorem btw_cnt {W : Nat} {a b : Nat} (hW : 0 < W) (hab : a < b) (hd : byI W a b ≠ 0) : ((b : Int) - a).tdiv (byI W a b) - 1 = (btw W a b).length := by
  rw [btw_len]
  obtain ⟨h0, h1⟩ := byI_pos (by omega) hd
  have hdv : byI W a b ∣ (b : Int) - a := by
    unfold byI at *
    rw [if_neg (by omega)] at *
    split
    · exact Int.one_dvd _
    · rename_i h
      rw [if_neg h] at hd
      split
      · rename_i h2
        rw [tmod_nn (by omega), tmod_nn (by omega)] at h2
        have := Int.emod_emod_of_dvd ((b : Int) - a) (Int.dvd_refl (W : Int))
        refine Int.dvd_of_emod_eq_zero ?_
        rw [Int.sub_emod, h2, Int.sub_self, Int.zero_emod]
      · rename_i h2; rw [if_neg h2] at hd; exact absurd rfl hd
  generalize byI W a b = d at *
  obtain ⟨m, hm⟩ := hdv
  have hmp : 0 < m := by
    rcases Int.lt_or_le 0 m with h | h
    · exact h
    · have := Int.mul_nonpos_of_nonneg_of_nonpos (Int.le_of_lt h0) h
      omega
  rw [tdiv_nn (by omega), show ((b : Int) - a - 1) = (d - 1) + d * (m - 1) from by rw [hm, Int.mul_sub]; omega, hm, Int.mul_ediv_cancel_left _ (by omega), Int.add_mul_ediv_left _ _ (by omega), Int.ediv_eq_zero_of_lt (by omega) (by omega)]
  omega
theorem btw_rg {W a b : Int} {N : Nat} (hW : 0 < W) (ha : 0 ≤ a) (hab : a < b) (hd : byI W a b ≠ 0) (hb : b ≤ N) {i : Nat} (hi : i < (btw W a b).length) : ∃ t : Nat, t < N ∧ (btw W a b)[i] = (t : Int) := by
  obtain ⟨h0, h1⟩ := byI_pos hW hd
  have h2 := (btw_lt h0 hab i).2 hi
  have h3 : 0 ≤ ((i : Int) + 1) * byI W a b := Int.mul_nonneg (by omega) (by omega)
  rw [btw_get hi]
  exact ⟨(a + ((i : Int) + 1) * byI W a b).toNat, by omega, by omega⟩
theorem length_ok {l : Ld} {W H : Nat} (hf : l.nl ≠ .bor) (g : Good l W H) {k u : Int} {a b : Nat} (hab : a < b) (hb : b < W * H) (hd : byI W a b ≠ 0) : R tb 40 [vL l, vSpan k a b u] = some (.int .i64 ((btw W a b).length : Int)) := by
  have := wh_le g
  have hst := step_ok g (k := k) (u := u) (a := a) (b := b) (by omega) hb
  rw [← btw_cnt (by have := g.w4; omega) hab hd]
  obtain ⟨w, hh, nl, xs⟩ := l
  obtain ⟨rfl, rfl, w4, w32, h4, h32, len, rg⟩ := g
  dsimp only at hf hst
  obtain ⟨h0, h1⟩ := byI_pos (by omega) hd
  have hw : IntKind.wrap .i64 (((b : Int) - a).tdiv (byI W a b)) = ((b : Int) - a).tdiv (byI W a b) := wrap_dv h0 (by omega) (by omega)
  have h2 : 0 ≤ ((b : Int) - a).tdiv (byI W a b) := by rw [tdiv_nn (by omega)]; exact Int.ediv_nonneg (by omega) (by omega)
  have h3 : ((b : Int) - a).tdiv (byI W a b) ≤ (b : Int) - a := by rw [tdiv_nn (by omega)]; exact Int.ediv_le_self _ (by omega)
  generalize byI W a b = d at *
  refine R_of_G (F := pf40) rfl rfl rfl ?_
  simp (disch := first | omega | with_unfolding_all rfl) [pf40, env0_eq, hf, hst, hd, hw]
theorem all_intB : ∀ ys : List Int, (cl ys).all intB = true
  | [] => rfl
  | y :: ys => by rw [cl_cons, List.all_append, all_intB ys]; rfl
theorem sqT_lst {p q : Bool} {w hh k a b u : Int} {nl : Nl} {ys : List Int} (hw : 0 < w ∧ w < 1000000) (hab : 0 ≤ a ∧ a < b ∧ b < 1000000000000) (hd : byI w a b ≠ 0) :
    sqT 64 [.pptr p [.int .i64 w, .int .i64 hh, lst nl ys] 0, .pptr q [.int .i64 k, .int .i64 a, .int .i64 b, .int .i64 u] 0] = some (btw w a b) := by
  show (if (64 : Nat) = 64 ∧ (0 < w ∧ w < 1000000) ∧ (0 ≤ a ∧ a < b ∧ b < 1000000000000) ∧ byI w a b ≠ 0 ∧ (cl ys).all intB = true then some (btw w a b) else none) = _
  rw [if_pos ⟨rfl, hw, hab, hd, all_intB ys⟩]
theorem between_ok {w hh k a b u : Int} {nl : Nl} {ys : List Int} (hnl : nl ≠ .bor) (H : Hp) : RO tb 48 [vLand w hh nl ys, vSpan k a b u] H =
    some (.clo (.func 64) [] [.pptr false [.int .i64 w, .int .i64 hh, lst nl ys] 0, .pptr false [.int .i64 k, .int .i64 a, .int .i64 b, .int .i64 u] 0], H) := by
  refine RO_of_G (F := pf48) rfl rfl rfl ?_
  simp (disch := first | omega | with_unfolding_all rfl) [pf48, env0_eq, hnl]
end Go.Proofs.Ytpnhdcjfhlcgoaa
