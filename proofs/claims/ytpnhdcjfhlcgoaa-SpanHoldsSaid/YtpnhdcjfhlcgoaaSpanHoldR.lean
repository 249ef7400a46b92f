/- Spans: the held tiles, as the reference finds them. -/
import Derived.Test.YtpnhdcjfhlcgoaaSpanHold2
set_option linter.unusedVariables false
set_option linter.unusedSimpArgs false
set_option maxHeartbeats 4000000
set_option maxRecDepth 20000
namespace Go.Proofs.Ytpnhdcjfhlcgoaa
open Go.Proofs.Ytpnhdcjfhlcgoaa.PM

def hS (W : Nat) (s : Sp) (t : Nat) : Bool := decide (s.a = (t : Int)) || decide (s.b = (t : Int)) || (decide (s.k = 0) && inL (btw W s.a s.b) t)
def hldB (W : Nat) (ss : List Sp) (t : Nat) : Bool := anyN (fun i => hS W (spn ss i) t) 0 ss.length
def hldR (W : Nat) (ss : List Sp) (N : Nat) : List Int := ((List.range N).filter (hldB W ss)).map fun t : Nat => (t : Int)
noncomputable def heR (l : Ld) (ss : List Sp) : PV := if lstErr l ss = 0 then lst .any (hldR l.w.toNat ss (l.w.toNat * l.h.toNat)) else .list .nil 1 []
theorem heldR_ok {l : Ld} (hf : l.nl ≠ .bor) (hb : l.xs.length ≤ 3000) {snl : Nl} {ss : List Sp} (hss : ss.length ≤ 300) : R tb2 25 [vL l, lst snl ss] = some (.tup [heR l ss, .int .i64 (lstErr l ss)]) := by
  have h1 := R2 (n2 := natO2) (listR_ok hf hb (snl := snl) hss)
  have h4 : heR l ss = if lstErr l ss = 0 then lst .any (hldR l.w.toNat ss (l.w.toNat * l.h.toNat)) else .list .nil 1 [] := rfl
  have h0 := fun h => lst_0 (l := l) (ss := ss) h
  have hgw := fun (h : landErr l = 0) => And.intro (good_nat h).w (And.intro (good_nat h).h (And.intro (good_nat h).w4 (wh_le (good_nat h))))
  have hbt := fun (h : landErr l = 0) (s : Sp) (A B : Nat) (hab : A < B) (hB : B < l.w.toNat * l.h.toNat) (hd : gapI l.w.toNat A B ≠ 0) => R2 (n2 := natO2) (btwR_ok hf (good_nat h) (k := s.k) (u := s.u) hab hB hd)
  have hse : ∀ s, errS l s = sErr l l.w.toNat l.h.toNat s.k s.a s.b s.u := fun _ => rfl
  generalize heR l ss = rv at *
  generalize hle : lstErr l ss = le at *
  obtain ⟨w, hh, nl, xs⟩ := l
  dsimp only at hf h1 h4 hbt hse hgw
  change R (tbN natO2) 25 _ = _
  refine R_of_G (F := pf25) (tbN_nat rfl) rfl rfl ?_
  by_cases c : le = 0
  case neg =>
    rw [if_neg c] at h4
    simp (disch := first | omega | with_unfolding_all rfl) [pf25, env0_eq, hf, h1, c, h4]
  rw [if_pos c] at h4
  obtain ⟨h01, h02⟩ := h0 c
  have hbt := hbt h01
  obtain ⟨hw, hh2, hw4, hwh⟩ := hgw h01
  simp (disch := first | omega | with_unfolding_all rfl) [pf25, env0_eq, hf, h1, c]
  generalize w.toNat = W at *
  generalize hh.toNat = H at *
  subst hw hh2
  have hm : (W : Int) * (H : Int) = ((W * H : Nat) : Int) := by push_cast; rfl
  have hbl := fun (a b : Nat) => btw_le (W := W) (H := H) (a := a) (b := b) (by omega) hwh
  generalize hNN : W * H = N at *
  refine G_loop (fun t e h => t ≤ N ∧ h = [bk 3 (hldR W ss t).length (hldR W ss t)] ∧ get e 1 = lst snl ss ∧ get e 2 = .pptr (!(nl != .bor)) [.int .i64 (W : Int), .int .i64 (H : Int), lst nl xs] 0 ∧ get e 7 = mls Int 0 (hldR W ss t).length (hldR W ss t).length ∧ get e 8 = .int .i64 (t : Int)) (fun t => N - t) (a₀ := 0) ?_ ?_
  · simp [hldR]
  rintro t e h ⟨ht, rfl, g1, g2, g7, g8⟩
  have hL : (hldR W ss t).length ≤ t := by
    unfold hldR
    rw [List.length_map]
    exact Nat.le_trans (List.length_filter_le _ _) (by simp)
  have hst : hldR W ss (t + 1) = hldR W ss t ++ (if hldB W ss t then [(t : Int)] else []) := by
    unfold hldR
    rw [List.range_succ, List.filter_append, List.map_append]
    cases hq : hldB W ss t <;> simp [hq]
  have hBt : hldB W ss t = anyN (fun i => hS W (spn ss i) t) 0 ss.length := rfl
  generalize hLL : hldR W ss t = L at *
  generalize hldB W ss t = hbt' at *
  simp (disch := first | omega | with_unfolding_all rfl) [g1, g2, g7, g8, hm]
  refine G_brd (fun hlt => ?_) (fun hlt => ?_)
  · simp (disch := first | omega | with_unfolding_all rfl) [hlt]
    refine G_scan (fun i e h => h = [bk 3 L.length L] ∧ get e 1 = lst snl ss ∧ get e 2 = .pptr (!(nl != .bor)) [.int .i64 (W : Int), .int .i64 (H : Int), lst nl xs] 0 ∧ get e 7 = mls Int 0 L.length L.length ∧ get e 8 = .int .i64 (t : Int) ∧ get e 9 = .int .i64 (i : Int))
      (fun i => hS W (spn ss i) t) ss.length 0 ?_ (Nat.zero_le _) ?_
    · simp [g1, g2, g7, g8]
    rintro i e h - hi hz ⟨rfl, g1, g2, g7, g8, g9⟩
    simp (disch := first | omega | with_unfolding_all rfl) [g1, g2, g7, g8, g9]
    refine G_brd (fun hlt2 => ?_) (fun hlt2 => ?_)
    · have hs := h02 i hlt2
      rw [hse] at hs
      obtain ⟨hk, A, B, hA, hB, hab, hBN, hd, _, hn⟩ := sErr_0 hs
      obtain ⟨hgd0, _⟩ := gap_dir hw4 hab hd
      have hbt := hbt (spn ss i) A B hab (by omega) hgd0
      have hin := R2 (n2 := natO2) (in_ok (nl := .any) (ts := btw W A B) (hbl A B hab (by omega) hd) (t : Int))
      have hsS : hS W (spn ss i) t = (decide ((A : Int) = (t : Int)) || decide ((B : Int) = (t : Int)) || (decide ((spn ss i).k = 0) && inL (btw W A B) t)) := by unfold hS; rw [hA, hB]
      have hyes : hS W (spn ss i) t = true → hbt' = true := fun h => by rw [hBt]; exact anyN_t (Nat.zero_le i) hlt2 h
      generalize hS W (spn ss i) t = hv at *
      generalize inL (btw W A B) t = iv at *
      have hap := evApp_mls (α := Int) (H := [bk 3 L.length L]) (e := 3) (s := 1) (bytes := 8) (b := 0) (gen := L.length) (n := L.length) (x := lst .ex [(t : Int)]) (ys := [(t : Int)]) rfl rfl (by simp) rfl rfl (by simp; omega)
      rw [evApp_mls_lst, if_pos (show (1 : Nat) = Enc.sz Int from rfl), if_neg (by simp)] at hap
      have hap2 : appB Int (some (bk 3 L.length L)) [bk 3 L.length L] 0 L.length L.length 3 8 [(t : Int)] = some (mls Int 0 (L.length + 1) (L.length + 1), [bk 3 (L.length + 1) (L ++ [(t : Int)])]) := hap
      simp (disch := first | omega | with_unfolding_all rfl) [hlt2, spn_get, hA, hB]
      by_cases q1 : (A : Int) = (t : Int)
      ·
        have hy := hyes (by rw [hsS]; simp [q1])
        rw [hy, if_pos rfl] at hst
        simp (disch := first | omega | with_unfolding_all rfl) [q1, spn_get, hA, hB, hf, hbt, hin, hap2, trimOk]
        exact ⟨t + 1, by omega, by omega, by rw [hst]; simp, by rw [hst]; simp, by push_cast; rfl⟩
      simp (disch := first | omega | with_unfolding_all rfl) [q1, spn_get, hA, hB]
      by_cases q2 : (B : Int) = (t : Int)
      ·
        have hy := hyes (by rw [hsS]; simp [q1, q2])
        rw [hy, if_pos rfl] at hst
        simp (disch := first | omega | with_unfolding_all rfl) [q1, q2, spn_get, hA, hB, hf, hbt, hin, hap2, trimOk]
        exact ⟨t + 1, by omega, by omega, by rw [hst]; simp, by rw [hst]; simp, by push_cast; rfl⟩
      simp (disch := first | omega | with_unfolding_all rfl) [q2, spn_get, hA, hB]
      by_cases q3 : (spn ss i).k = 0
      case neg =>
        simp (disch := first | omega | with_unfolding_all rfl) [q3, hsS, q1, q2, hlt2, trimOk]
      rw [q3] at hbt
      simp (disch := first | omega | with_unfolding_all rfl) [q3, spn_get, hA, hB, hf, hbt, hin]
      cases q4 : iv
      · simp (disch := first | omega | with_unfolding_all rfl) [hsS, q1, q2, q3, q4, hlt2, trimOk]
      ·
        have hy := hyes (by rw [hsS]; simp [q1, q2, q3, q4])
        rw [hy, if_pos rfl] at hst
        simp (disch := first | omega | with_unfolding_all rfl) [q1, q2, q3, q4, spn_get, hA, hB, hf, hbt, hin, hap2, trimOk]
        exact ⟨t + 1, by omega, by omega, by rw [hst]; simp, by rw [hst]; simp, by push_cast; rfl⟩
    · have hno : hbt' = false := by rw [hBt]; exact anyN_f fun j h1 h2 => hz j h1 (by omega)
      rw [hno, if_neg (by simp), List.append_nil] at hst
      simp (disch := first | omega | with_unfolding_all rfl) [hlt2]
      exact ⟨t + 1, by omega, by omega, by rw [hst]; exact ⟨rfl, rfl⟩, by rw [hst], by push_cast; rfl⟩
  · have hil : t = N := by omega
    subst hil
    simp (disch := first | omega | with_unfolding_all rfl) [hlt, h4, hLL]
end Go.Proofs.Ytpnhdcjfhlcgoaa
