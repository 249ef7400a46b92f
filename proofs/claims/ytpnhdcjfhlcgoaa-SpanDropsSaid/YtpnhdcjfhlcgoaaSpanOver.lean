/- Spans: which spans cross a tile. -/
import Derived.Test.YtpnhdcjfhlcgoaaSpanCrossLaw
set_option linter.unusedVariables false
set_option linter.unusedSimpArgs false
set_option maxHeartbeats 4000000
set_option maxRecDepth 20000
namespace Go.Proofs.Ytpnhdcjfhlcgoaa
open Go.Proofs.Ytpnhdcjfhlcgoaa.PM

instance : Flat Sp := ⟨fun _ _ _ _ => rfl⟩

def inL (ts : List Int) (n : Int) : Bool := ts.any fun x => decide (x = n)
theorem in_ok {nl : Nl} {ts : List Int} (ht : ts.length ≤ 3000) (n : Int) : R tb 41 [lst nl ts, .int .i64 n] = some (.bool (inL ts n)) := by
  refine R_of_G (F := pf41) rfl rfl rfl ?_
  simp (disch := first | omega | with_unfolding_all rfl) [pf41, env0_eq]
  refine G_scan (fun i e h => h = [] ∧ get e 0 = lst nl ts ∧ get e 1 = .int .i64 n ∧ get e 5 = .int .i64 (i : Int)) (fun i => decide (zz ts i = n)) ts.length 0 ?_ (Nat.zero_le _) ?_
  · simp
  · rintro i e h - hi hz ⟨rfl, g0, g1, g5⟩
    simp (disch := first | omega | with_unfolding_all rfl) [g0, g1, g5]
    refine G_brd (fun hlt => ?_) (fun hlt => ?_)
    · simp (disch := first | omega | with_unfolding_all rfl) [hlt, zz_get]
      by_cases c : zz ts i = n
      · have : inL ts n = true := any_at (f := fun x => decide (x = n)) hlt (by rw [zz_get hlt]; simpa using c)
        simp (disch := first | omega | with_unfolding_all rfl) [c, this]
      · simp (disch := first | omega | with_unfolding_all rfl) [c, hlt]
    · have : inL ts n = false := any_upto fun j hj => by rw [zz_get hj]; exact hz j (Nat.zero_le _) (by omega)
      simp (disch := first | omega | with_unfolding_all rfl) [hlt, this]
theorem crossesT_ok {l : Ld} {W H : Nat} (hf : l.nl ≠ .bor) (g : Good l W H) {k u : Int} {a b : Nat} (hab : a < b) (hb : b < W * H) (hd : byI W a b ≠ 0) (n : Int) : R tb 43 [vL l, vSpan k a b u, .int .i64 n] = some (.bool (inL (btw W a b) n)) := by
  have hwh := wh_le g
  have hsq := fun (p q : Bool) => sqT_lst (p := p) (q := q) (w := W) (hh := H) (k := k) (a := a) (b := b) (u := u) (nl := l.nl) (ys := l.xs) (by have := g.w4; have := g.w32; omega) (by omega) hd
  obtain ⟨w, hh, nl, xs⟩ := l
  obtain ⟨rfl, rfl, w4, w32, h4, h32, len, rg⟩ := g
  dsimp only at hf hsq
  generalize btw W a b = ts at *
  refine R_of_G (F := pf43) rfl rfl rfl ?_
  simp (disch := first | omega | with_unfolding_all rfl) [pf43, env0_eq, hf, between_ok hf]
  refine G_rng (xs := ts) (hsq false false) (fun i h => h = [⟨4, 0, [.bool false]⟩] ∧ ∀ j (hj : j < ts.length), j < i → decide (ts[j] = n) = false) ⟨rfl, fun j _ hj => absurd hj (Nat.not_lt_zero _)⟩ ?_ ?_
  · rintro i hi h' ⟨rfl, hz⟩
    simp (disch := first | omega | with_unfolding_all rfl) [hf]
    by_cases c : ts[i] = n
    · have : inL ts n = true := any_at (f := fun x => decide (x = n)) hi (by simpa using c)
      simp (disch := first | omega | with_unfolding_all rfl) [c, this]
    · simp (disch := first | omega | with_unfolding_all rfl) [c]
      intro j hj hji
      rcases Nat.lt_succ_iff_lt_or_eq.1 hji with q | rfl
      · simpa using hz j hj q
      · exact c
  · rintro h' ⟨rfl, hz⟩
    have : inL ts n = false := any_upto fun j hj => hz j hj hj
    simp (disch := first | omega | with_unfolding_all rfl) [this]

def ovp (W : Nat) (n : Int) (s : Sp) : Bool := inL (btw W s.a s.b) n
def ovE (l : Ld) (ss : List Sp) (n : Int) : Int := if lstErr l ss ≠ 0 then lstErr l ss else if 0 ≤ n ∧ n < ((l.w.toNat * l.h.toNat : Nat) : Int) then 0 else 2
noncomputable def ovV (l : Ld) (ss : List Sp) (n : Int) : PV := if ovE l ss n = 0 then lst .any (ss.filter (ovp l.w.toNat n)) else .list .nil 1 []

theorem over_ok {l : Ld} (hf : l.nl ≠ .bor) (hb : l.xs.length ≤ 3000) {snl : Nl} {ss : List Sp} (hss : ss.length ≤ 300) (n : Int) : R tb 21 [vL l, lst snl ss, .int .i64 n] = some (.tup [ovV l ss n, .int .i64 (ovE l ss n)]) := by
  have h1 := list_ok hf hb (snl := snl) hss
  have h3 : ovE l ss n = if lstErr l ss ≠ 0 then lstErr l ss else if 0 ≤ n ∧ n < ((l.w.toNat * l.h.toNat : Nat) : Int) then 0 else 2 := rfl
  have h4 : ovV l ss n = if ovE l ss n = 0 then lst .any (ss.filter (ovp l.w.toNat n)) else .list .nil 1 [] := rfl
  have h0 := fun h => lst_0 (l := l) (ss := ss) h
  have hti := fun (h : landErr l = 0) => tile_ok hf (good_nat h) (n := n)
  have hcr := fun (h : landErr l = 0) (s : Sp) (A B : Nat) (hab : A < B) (hB : B < l.w.toNat * l.h.toNat) (hd : byI l.w.toNat A B ≠ 0) => crossesT_ok hf (good_nat h) (k := s.k) (u := s.u) hab hB hd n
  have hse : ∀ s, errS l s = sErr l l.w.toNat l.h.toNat s.k s.a s.b s.u := fun _ => rfl
  generalize ovE l ss n = re at *
  generalize ovV l ss n = rv at *
  generalize hle : lstErr l ss = le at *
  obtain ⟨w, hh, nl, xs⟩ := l
  dsimp only at hf h1 h3 h4 hti hcr hse
  generalize hNN : w.toNat * hh.toNat = N at *
  obtain ⟨tl, htl⟩ : ∃ t : Bool, t = decide (0 ≤ n ∧ n < (N : Int)) := ⟨_, rfl⟩
  refine R_of_G (F := pf21) rfl rfl rfl ?_
  by_cases c : le = 0
  case neg =>
    rw [if_pos c] at h3
    rw [h3, if_neg c] at h4
    simp (disch := first | omega | with_unfolding_all rfl) [pf21, env0_eq, hf, h1, c, h3, h4]
  rw [if_neg (by omega)] at h3
  obtain ⟨h01, h02⟩ := h0 c
  have hti := hti h01
  have hcr := hcr h01
  rw [← htl] at hti
  simp (disch := first | omega | with_unfolding_all rfl) [pf21, env0_eq, hf, h1, c, hti]
  cases tl
  · have c1 : ¬ (0 ≤ n ∧ n < (N : Int)) := of_decide_eq_false htl.symm
    rw [if_neg c1] at h3
    rw [h3, if_neg (by omega)] at h4
    simp (disch := first | omega | with_unfolding_all rfl) [h3, h4]
  have c1 : 0 ≤ n ∧ n < (N : Int) := of_decide_eq_true htl.symm
  rw [if_pos c1] at h3
  rw [h3, if_pos rfl] at h4
  generalize w.toNat = W at *
  generalize hh.toNat = H at *
  simp (disch := first | omega | with_unfolding_all rfl) [h3]
  generalize hp : ovp W n = p at *
  refine G_loop (fun i e h => i ≤ ss.length ∧ h = [bk 26 ((ss.take i).filter p).length ((ss.take i).filter p)] ∧ get e 2 = .int .i64 n ∧ get e 3 = .pptr (!(nl != .bor)) [.int .i64 w, .int .i64 hh, lst nl xs] 0 ∧ get e 9 = mls Sp 0 ((ss.take i).filter p).length ((ss.take i).filter p).length ∧ get e 22 = lst snl ss ∧ get e 23 = .int .i64 (ss.length : Int) ∧ get e 24 = .int .i64 (i : Int)) (fun i => ss.length - i) (a₀ := 0) ?_ ?_
  · simp [mls]
  rintro i e h ⟨hi, rfl, g2, g3, g9, g22, g23, g24⟩
  have hL : ((ss.take i).filter p).length ≤ 300 := by
    have h1 := List.length_filter_le p (ss.take i)
    rw [List.length_take] at h1
    omega
  have htk : ∀ hlt : i < ss.length, (ss.take (i + 1)).filter p = (ss.take i).filter p ++ (if p (spn ss i) then [spn ss i] else []) := fun hlt => by
    rw [List.take_succ_eq_append_getElem hlt, List.filter_append, spn_get hlt]
    cases hq : p (spn ss i) <;> simp [hq]
  generalize hLL : (ss.take i).filter p = L at *
  simp (disch := first | omega | with_unfolding_all rfl) [g2, g3, g9, g22, g23, g24]
  refine G_brd (fun hlt => ?_) (fun hlt => ?_)
  · have htk := htk hlt
    have hs := h02 i hlt
    rw [hse] at hs
    obtain ⟨hk, A, B, hA, hB, hab, hBN, hd, _, hn⟩ := sErr_0 hs
    have hcr := hcr (spn ss i) A B hab (by omega) hd
    have hps : p (spn ss i) = inL (btw W A B) n := by rw [← hp]; unfold ovp; rw [hA, hB]
    rw [← hps] at hcr
    have hap := evApp_mls (α := Sp) (H := [bk 26 L.length L, ⟨26, 0, [.int .i64 (spn ss i).k, .int .i64 A, .int .i64 B, .int .i64 (spn ss i).u]⟩]) (e := 26) (s := 4) (bytes := 32) (b := 0) (gen := L.length) (n := L.length) (x := .list .ex 4 [.int .i64 (spn ss i).k, .int .i64 A, .int .i64 B, .int .i64 (spn ss i).u]) (ys := [spn ss i]) rfl (by rw [show cl [spn ss i] = [.int .i64 (spn ss i).k, .int .i64 A, .int .i64 B, .int .i64 (spn ss i).u] from by simp [cl, hA, hB]]; rfl) (by simp) rfl rfl (by simp; omega)
    simp (disch := first | omega | with_unfolding_all rfl) [hlt, spn_get, hA, hB, hf, hcr]
    cases hps2 : p (spn ss i)
    · rw [hps2] at htk
      simp (disch := first | omega | with_unfolding_all rfl) [hlt, trimOk]
      rw [if_neg (by simp), List.append_nil] at htk
      exact ⟨i + 1, by omega, by omega, by rw [htk]; exact ⟨rfl, rfl⟩, by rw [htk], by push_cast; rfl⟩
    · rw [hps2] at htk
      simp (disch := first | omega | with_unfolding_all rfl) [hlt, hap, trimOk]
      rw [if_pos rfl] at htk
      exact ⟨i + 1, by omega, by omega, by rw [htk]; simp, by rw [htk]; simp, by push_cast; rfl⟩
  · have hil : i = ss.length := by omega
    subst hil
    rw [List.take_length] at hLL
    simp (disch := first | omega | with_unfolding_all rfl) [hlt, h4, hLL]
end Go.Proofs.Ytpnhdcjfhlcgoaa
