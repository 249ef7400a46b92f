/- Several texts in one: SpanOver, SpanOverLaw. -/
import Derived.Test.YtpnhdcjfhlcgoaaSpanCrossA
section
set_option linter.unusedVariables false
set_option linter.unusedSimpArgs false
set_option maxHeartbeats 4000000
set_option maxRecDepth 20000
namespace Go.Proofs.Ytpnhdcjfhlcgoaa
open Go.Proofs.Ytpnhdcjfhlcgoaa.PM

instance : Flat Sp := ⟨fun _ _ _ _ => rfl⟩

def inL (ts : List Int) (n : Int) : Bool := ts.any fun x => decide (x = n)
theorem in_ok {nl : Nl} {ts : List Int} (ht : ts.length ≤ 3000) (n : Int) : R tb 41 [lst nl ts, .int .i64 n] = some (.bool (inL ts n)) := by
  refine R_of_G (F := pf41) rfl rfl rfl ?_
  simp (disch := first | omega | with_unfolding_all rfl) [pf41, env0_eq]
  refine G_scan (fun i e h => h = [] ∧ get e 0 = lst nl ts ∧ get e 1 = .int .i64 n ∧ get e 5 = .int .i64 (i : Int)) (fun i => decide (zz ts i = n)) ts.length 0 ?_ (Nat.zero_le _) ?_
  · simp
  · rintro i e h - hi hz ⟨rfl, g0, g1, g5⟩
    simp (disch := first | omega | with_unfolding_all rfl) [g0, g1, g5]
    refine G_brd (fun hlt => ?_) (fun hlt => ?_)
    · simp (disch := first | omega | with_unfolding_all rfl) [hlt, zz_get]
      by_cases c : zz ts i = n
      · have : inL ts n = true := any_at (f := fun x => decide (x = n)) hlt (by rw [zz_get hlt]; simpa using c)
        simp (disch := first | omega | with_unfolding_all rfl) [c, this]
      · simp (disch := first | omega | with_unfolding_all rfl) [c, hlt]
    · have : inL ts n = false := any_upto fun j hj => by rw [zz_get hj]; exact hz j (Nat.zero_le _) (by omega)
      simp (disch := first | omega | with_unfolding_all rfl) [hlt, this]
theorem crossesT_ok {l : Ld} {W H : Nat} (hf : l.nl ≠ .bor) (g : Good l W H) {k u : Int} {a b : Nat} (hab : a < b) (hb : b < W * H) (hd : byI W a b ≠ 0) (n : Int) : R tb 43 [vL l, vSpan k a b u, .int .i64 n] = some (.bool (inL (btw W a b) n)) := by
  have hwh := wh_le g
  have hsq := fun (p q : Bool) => sqT_lst (p := p) (q := q) (w := W) (hh := H) (k := k) (a := a) (b := b) (u := u) (nl := l.nl) (ys := l.xs) (by have := g.w4; have := g.w32; omega) (by omega) hd
  obtain ⟨w, hh, nl, xs⟩ := l
  obtain ⟨rfl, rfl, w4, w32, h4, h32, len, rg⟩ := g
  dsimp only at hf hsq
  generalize btw W a b = ts at *
  refine R_of_G (F := pf43) rfl rfl rfl ?_
  simp (disch := first | omega | with_unfolding_all rfl) [pf43, env0_eq, hf, between_ok hf]
  refine G_rng (xs := ts) (hsq false false) (fun i h => h = [⟨4, 0, [.bool false]⟩] ∧ ∀ j (hj : j < ts.length), j < i → decide (ts[j] = n) = false) ⟨rfl, fun j _ hj => absurd hj (Nat.not_lt_zero _)⟩ ?_ ?_
  · rintro i hi h' ⟨rfl, hz⟩
    simp (disch := first | omega | with_unfolding_all rfl) [hf]
    by_cases c : ts[i] = n
    · have : inL ts n = true := any_at (f := fun x => decide (x = n)) hi (by simpa using c)
      simp (disch := first | omega | with_unfolding_all rfl) [c, this]
    · simp (disch := first | omega | with_unfolding_all rfl) [c]
      intro j hj hji
      rcases Nat.lt_succ_iff_lt_or_eq.1 hji with q | rfl
      · simpa using hz j hj q
      · exact c
  · rintro h' ⟨rfl, hz⟩
    have : inL ts n = false := any_upto fun j hj => hz j hj hj
    simp (disch := first | omega | with_unfolding_all rfl) [this]

def ovp (W : Nat) (n : Int) (s : Sp) : Bool := inL (btw W s.a s.b) n
def ovE (l : Ld) (ss : List Sp) (n : Int) : Int := if lstErr l ss ≠ 0 then lstErr l ss else if 0 ≤ n ∧ n < ((l.w.toNat * l.h.toNat : Nat) : Int) then 0 else 2
noncomputable def ovV (l : Ld) (ss : List Sp) (n : Int) : PV := if ovE l ss n = 0 then lst .any (ss.filter (ovp l.w.toNat n)) else .list .nil 1 []

theorem over_ok {l : Ld} (hf : l.nl ≠ .bor) (hb : l.xs.length ≤ 3000) {snl : Nl} {ss : List Sp} (hss : ss.length ≤ 300) (n : Int) : R tb 21 [vL l, lst snl ss, .int .i64 n] = some (.tup [ovV l ss n, .int .i64 (ovE l ss n)]) := by
  have h1 := list_ok hf hb (snl := snl) hss
  have h3 : ovE l ss n = if lstErr l ss ≠ 0 then lstErr l ss else if 0 ≤ n ∧ n < ((l.w.toNat * l.h.toNat : Nat) : Int) then 0 else 2 := rfl
  have h4 : ovV l ss n = if ovE l ss n = 0 then lst .any (ss.filter (ovp l.w.toNat n)) else .list .nil 1 [] := rfl
  have h0 := fun h => lst_0 (l := l) (ss := ss) h
  have hti := fun (h : landErr l = 0) => tile_ok hf (good_nat h) (n := n)
  have hcr := fun (h : landErr l = 0) (s : Sp) (A B : Nat) (hab : A < B) (hB : B < l.w.toNat * l.h.toNat) (hd : byI l.w.toNat A B ≠ 0) => crossesT_ok hf (good_nat h) (k := s.k) (u := s.u) hab hB hd n
  have hse : ∀ s, errS l s = sErr l l.w.toNat l.h.toNat s.k s.a s.b s.u := fun _ => rfl
  generalize ovE l ss n = re at *
  generalize ovV l ss n = rv at *
  generalize hle : lstErr l ss = le at *
  obtain ⟨w, hh, nl, xs⟩ := l
  dsimp only at hf h1 h3 h4 hti hcr hse
  generalize hNN : w.toNat * hh.toNat = N at *
  obtain ⟨tl, htl⟩ : ∃ t : Bool, t = decide (0 ≤ n ∧ n < (N : Int)) := ⟨_, rfl⟩
  refine R_of_G (F := pf21) rfl rfl rfl ?_
  by_cases c : le = 0
  case neg =>
    rw [if_pos c] at h3
    rw [h3, if_neg c] at h4
    simp (disch := first | omega | with_unfolding_all rfl) [pf21, env0_eq, hf, h1, c, h3, h4]
  rw [if_neg (by omega)] at h3
  obtain ⟨h01, h02⟩ := h0 c
  have hti := hti h01
  have hcr := hcr h01
  rw [← htl] at hti
  simp (disch := first | omega | with_unfolding_all rfl) [pf21, env0_eq, hf, h1, c, hti]
  cases tl
  · have c1 : ¬ (0 ≤ n ∧ n < (N : Int)) := of_decide_eq_false htl.symm
    rw [if_neg c1] at h3
    rw [h3, if_neg (by omega)] at h4
    simp (disch := first | omega | with_unfolding_all rfl) [h3, h4]
  have c1 : 0 ≤ n ∧ n < (N : Int) := of_decide_eq_true htl.symm
  rw [if_pos c1] at h3
  rw [h3, if_pos rfl] at h4
  generalize w.toNat = W at *
  generalize hh.toNat = H at *
  simp (disch := first | omega | with_unfolding_all rfl) [h3]
  generalize hp : ovp W n = p at *
  refine G_loop (fun i e h => i ≤ ss.length ∧ h = [bk 26 ((ss.take i).filter p).length ((ss.take i).filter p)] ∧ get e 2 = .int .i64 n ∧ get e 3 = .pptr (!(nl != .bor)) [.int .i64 w, .int .i64 hh, lst nl xs] 0 ∧ get e 9 = mls Sp 0 ((ss.take i).filter p).length ((ss.take i).filter p).length ∧ get e 22 = lst snl ss ∧ get e 23 = .int .i64 (ss.length : Int) ∧ get e 24 = .int .i64 (i : Int)) (fun i => ss.length - i) (a₀ := 0) ?_ ?_
  · simp [mls]
  rintro i e h ⟨hi, rfl, g2, g3, g9, g22, g23, g24⟩
  have hL : ((ss.take i).filter p).length ≤ 300 := by
    have h1 := List.length_filter_le p (ss.take i)
    rw [List.length_take] at h1
    omega
  have htk : ∀ hlt : i < ss.length, (ss.take (i + 1)).filter p = (ss.take i).filter p ++ (if p (spn ss i) then [spn ss i] else []) := fun hlt => by
    rw [List.take_succ_eq_append_getElem hlt, List.filter_append, spn_get hlt]
    cases hq : p (spn ss i) <;> simp [hq]
  generalize hLL : (ss.take i).filter p = L at *
  simp (disch := first | omega | with_unfolding_all rfl) [g2, g3, g9, g22, g23, g24]
  refine G_brd (fun hlt => ?_) (fun hlt => ?_)
  · have htk := htk hlt
    have hs := h02 i hlt
    rw [hse] at hs
    obtain ⟨hk, A, B, hA, hB, hab, hBN, hd, _, hn⟩ := sErr_0 hs
    have hcr := hcr (spn ss i) A B hab (by omega) hd
    have hps : p (spn ss i) = inL (btw W A B) n := by rw [← hp]; unfold ovp; rw [hA, hB]
    rw [← hps] at hcr
    have hap := evApp_mls (α := Sp) (H := [bk 26 L.length L, ⟨26, 0, [.int .i64 (spn ss i).k, .int .i64 A, .int .i64 B, .int .i64 (spn ss i).u]⟩]) (e := 26) (s := 4) (bytes := 32) (b := 0) (gen := L.length) (n := L.length) (x := .list .ex 4 [.int .i64 (spn ss i).k, .int .i64 A, .int .i64 B, .int .i64 (spn ss i).u]) (ys := [spn ss i]) rfl (by rw [show cl [spn ss i] = [.int .i64 (spn ss i).k, .int .i64 A, .int .i64 B, .int .i64 (spn ss i).u] from by simp [cl, hA, hB]]; rfl) (by simp) rfl rfl (by simp; omega)
    simp (disch := first | omega | with_unfolding_all rfl) [hlt, spn_get, hA, hB, hf, hcr]
    cases hps2 : p (spn ss i)
    · rw [hps2] at htk
      simp (disch := first | omega | with_unfolding_all rfl) [hlt, trimOk]
      rw [if_neg (by simp), List.append_nil] at htk
      exact ⟨i + 1, by omega, by omega, by rw [htk]; exact ⟨rfl, rfl⟩, by rw [htk], by push_cast; rfl⟩
    · rw [hps2] at htk
      simp (disch := first | omega | with_unfolding_all rfl) [hlt, hap, trimOk]
      rw [if_pos rfl] at htk
      exact ⟨i + 1, by omega, by omega, by rw [htk]; simp, by rw [htk]; simp, by push_cast; rfl⟩
  · have hil : i = ss.length := by omega
    subst hil
    rw [List.take_length] at hLL
    simp (disch := first | omega | with_unfolding_all rfl) [hlt, h4, hLL]
end Go.Proofs.Ytpnhdcjfhlcgoaa
end

section
set_option linter.unusedVariables false
set_option linter.unusedSimpArgs false
set_option maxHeartbeats 4000000
set_option maxRecDepth 20000
namespace Go.Proofs.Ytpnhdcjfhlcgoaa
open Go.Proofs.Ytpnhdcjfhlcgoaa.PM

theorem btw_le {W H : Nat} {a b : Nat} (hW : 0 < W) (hwh : W * H ≤ 1024) (hab : a < b) (hb : b < W * H) (hd : byI W a b ≠ 0) : (btw W a b).length ≤ 3000 := by
  obtain ⟨h0, h1⟩ := byI_pos (by omega) hd
  rcases Nat.lt_or_ge 1024 (btw W a b).length with q | q
  · exfalso
    have h2 := (btw_lt (w := W) (a := a) (b := b) h0 (by omega) 1024).2 q
    have h3 : (1024 + 1) * 1 ≤ ((1024 : Nat) + 1 : Int) * byI W a b := Int.mul_le_mul_of_nonneg_left (by omega) (by omega)
    omega
  · omega
theorem overR_ok {l : Ld} (hf : l.nl ≠ .bor) (hb : l.xs.length ≤ 3000) {snl : Nl} {ss : List Sp} (hss : ss.length ≤ 300) (n : Int) : R tb 20 [vL l, lst snl ss, .int .i64 n] = some (.tup [ovV l ss n, .int .i64 (ovE l ss n)]) := by
  have h1 := listR_ok hf hb (snl := snl) hss
  have h3 : ovE l ss n = if lstErr l ss ≠ 0 then lstErr l ss else if 0 ≤ n ∧ n < ((l.w.toNat * l.h.toNat : Nat) : Int) then 0 else 2 := rfl
  have h4 : ovV l ss n = if ovE l ss n = 0 then lst .any (ss.filter (ovp l.w.toNat n)) else .list .nil 1 [] := rfl
  have h0 := fun h => lst_0 (l := l) (ss := ss) h
  have hgw := fun (h : landErr l = 0) => And.intro (good_nat h).w (And.intro (good_nat h).h (And.intro (good_nat h).w4 (wh_le (good_nat h))))
  have hbt := fun (h : landErr l = 0) (s : Sp) (A B : Nat) (hab : A < B) (hB : B < l.w.toNat * l.h.toNat) (hd : gapI l.w.toNat A B ≠ 0) => btwR_ok hf (good_nat h) (k := s.k) (u := s.u) hab hB hd
  have hse : ∀ s, errS l s = sErr l l.w.toNat l.h.toNat s.k s.a s.b s.u := fun _ => rfl
  generalize ovE l ss n = re at *
  generalize ovV l ss n = rv at *
  generalize hle : lstErr l ss = le at *
  obtain ⟨w, hh, nl, xs⟩ := l
  dsimp only at hf h1 h3 h4 hbt hse hgw
  refine R_of_G (F := pf20) rfl rfl rfl ?_
  by_cases c : le = 0
  case neg =>
    rw [if_pos c] at h3
    rw [h3, if_neg c] at h4
    simp (disch := first | omega | with_unfolding_all rfl) [pf20, env0_eq, hf, h1, c, h3, h4]
  rw [if_neg (by omega)] at h3
  obtain ⟨h01, h02⟩ := h0 c
  have hbt := hbt h01
  obtain ⟨hw, hh2, hw4, hwh⟩ := hgw h01
  generalize w.toNat = W at *
  generalize hh.toNat = H at *
  subst hw hh2
  have hm : (W : Int) * (H : Int) = ((W * H : Nat) : Int) := by push_cast; rfl
  have hbl := fun (a b : Nat) => btw_le (W := W) (H := H) (a := a) (b := b) (by omega) hwh
  generalize hNN : W * H = N at *
  simp (disch := first | omega | with_unfolding_all rfl) [pf20, env0_eq, hf, h1, c]
  by_cases c1 : n < 0
  · rw [if_neg (by omega)] at h3
    rw [h3, if_neg (by omega)] at h4
    simp (disch := first | omega | with_unfolding_all rfl) [c1, h3, h4]
  simp (disch := first | omega | with_unfolding_all rfl) [c1, hm]
  by_cases c2 : (N : Int) ≤ n
  · rw [if_neg (by omega)] at h3
    rw [h3, if_neg (by omega)] at h4
    simp (disch := first | omega | with_unfolding_all rfl) [c2, h3, h4]
  rw [if_pos (by omega)] at h3
  rw [h3, if_pos rfl] at h4
  simp (disch := first | omega | with_unfolding_all rfl) [c2, h3]
  generalize hp : ovp W n = p at *
  refine G_loop (fun i e h => i ≤ ss.length ∧ h = [bk 26 ((ss.take i).filter p).length ((ss.take i).filter p)] ∧ get e 1 = lst snl ss ∧ get e 2 = .int .i64 n ∧ get e 3 = .pptr (!(nl != .bor)) [.int .i64 (W : Int), .int .i64 (H : Int), lst nl xs] 0 ∧ get e 9 = mls Sp 0 ((ss.take i).filter p).length ((ss.take i).filter p).length ∧ get e 10 = .int .i64 (i : Int)) (fun i => ss.length - i) (a₀ := 0) ?_ ?_
  · simp [mls]
  rintro i e h ⟨hi, rfl, g1, g2, g3, g9, g10⟩
  have hL : ((ss.take i).filter p).length ≤ 300 := by
    have h1 := List.length_filter_le p (ss.take i)
    rw [List.length_take] at h1
    omega
  have htk : ∀ hlt : i < ss.length, (ss.take (i + 1)).filter p = (ss.take i).filter p ++ (if p (spn ss i) then [spn ss i] else []) := fun hlt => by
    rw [List.take_succ_eq_append_getElem hlt, List.filter_append, spn_get hlt]
    cases hq : p (spn ss i) <;> simp [hq]
  generalize hLL : (ss.take i).filter p = L at *
  simp (disch := first | omega | with_unfolding_all rfl) [g1, g2, g3, g9, g10]
  refine G_brd (fun hlt => ?_) (fun hlt => ?_)
  · have htk := htk hlt
    have hs := h02 i hlt
    rw [hse] at hs
    obtain ⟨hk, A, B, hA, hB, hab, hBN, hd, _, hn⟩ := sErr_0 hs
    obtain ⟨hgd0, _⟩ := gap_dir hw4 hab hd
    have hbt := hbt (spn ss i) A B hab (by omega) hgd0
    have hin := in_ok (nl := .any) (ts := btw W A B) (hbl A B hab (by omega) hd) n
    have hps : p (spn ss i) = inL (btw W A B) n := by rw [← hp]; unfold ovp; rw [hA, hB]
    rw [← hps] at hin
    have hap := evApp_mls (α := Sp) (H := [bk 26 L.length L]) (e := 26) (s := 4) (bytes := 32) (b := 0) (gen := L.length) (n := L.length) (x := .list .ex 4 [.int .i64 (spn ss i).k, .int .i64 A, .int .i64 B, .int .i64 (spn ss i).u]) (ys := [spn ss i]) rfl (by rw [show cl [spn ss i] = [.int .i64 (spn ss i).k, .int .i64 A, .int .i64 B, .int .i64 (spn ss i).u] from by simp [cl, hA, hB]]; rfl) (by simp) rfl rfl (by simp; omega)
    simp (disch := first | omega | with_unfolding_all rfl) [hlt, spn_get, hA, hB, hf, hbt, hin]
    cases hps2 : p (spn ss i)
    · rw [hps2] at htk
      simp (disch := first | omega | with_unfolding_all rfl) [hlt, trimOk]
      rw [if_neg (by simp), List.append_nil] at htk
      exact ⟨i + 1, by omega, by omega, by rw [htk]; exact ⟨rfl, rfl⟩, by rw [htk], by push_cast; rfl⟩
    · rw [hps2] at htk
      simp (disch := first | omega | with_unfolding_all rfl) [hlt, spn_get, hA, hB, hap, trimOk]
      rw [if_pos rfl] at htk
      exact ⟨i + 1, by omega, by omega, by rw [htk]; simp, by rw [htk]; simp, by push_cast; rfl⟩
  · have hil : i = ss.length := by omega
    subst hil
    rw [List.take_length] at hLL
    simp (disch := first | omega | with_unfolding_all rfl) [hlt, h4, hLL]

theorem sameNil_ok : R tb 22 [.list .nil 1 [], .list .nil 1 []] = some (.bool true) := by
  refine R_of_G (F := pf22) rfl rfl rfl ?_
  simp (disch := first | omega | with_unfolding_all rfl) [pf22, env0_eq]
  rw [G_unroll]
  simp (disch := first | omega | with_unfolding_all rfl) []
theorem same_ok {ss : List Sp} (hs : ss.length ≤ 3000) : R tb 22 [lst .any ss, lst .any ss] = some (.bool true) := by
  refine R_of_G (F := pf22) rfl rfl rfl ?_
  simp (disch := first | omega | with_unfolding_all rfl) [pf22, env0_eq]
  refine G_loop (fun i e h => i ≤ ss.length ∧ h = [] ∧ get e 0 = lst .any ss ∧ get e 1 = lst .any ss ∧ get e 5 = .int .i64 (i : Int)) (fun i => ss.length - i) (a₀ := 0) ?_ ?_
  · simp
  rintro i e h ⟨hi, rfl, g0, g1, g5⟩
  simp (disch := first | omega | with_unfolding_all rfl) [g0, g1, g5]
  refine G_brd (fun hlt => ?_) (fun hlt => ?_)
  · simp (disch := first | omega | with_unfolding_all rfl) [hlt, spn_get]
    exact ⟨i + 1, by omega, by omega, by push_cast; rfl⟩
  · simp (disch := first | omega | with_unfolding_all rfl) [hlt]

theorem overs_ok {l : Ld} (hf : l.nl ≠ .bor) (hb : l.xs.length ≤ maxLen) {snl : Nl} {ss : List Sp} (hs : ss.length ≤ maxLen) (n : Int) : R tb 6 [vL l, lst snl ss, .int .i64 n] = some (.bool true) := by
  have h0 := far_ok hf hb (snl := snl) hs
  have h1 := fun (h : l.xs.length ≤ 3000) (h' : ss.length ≤ 300) => over_ok hf h (snl := snl) h' n
  have h2 := fun (h : l.xs.length ≤ 3000) (h' : ss.length ≤ 300) => overR_ok hf h (snl := snl) h' n
  have h3 : ss.length ≤ 300 → ovV l ss n = .list .nil 1 [] ∨ ∃ L : List Sp, L.length ≤ 300 ∧ ovV l ss n = lst .any L := by
    intro h
    unfold ovV
    split
    · exact .inr ⟨_, Nat.le_trans (List.length_filter_le _ _) h, rfl⟩
    · exact .inl rfl
  generalize ovE l ss n = re at *
  generalize ovV l ss n = rv at *
  obtain ⟨w, hh, nl, xs⟩ := l
  dsimp only at hf hb h0 h1 h2
  refine R_of_G (F := pf6) rfl rfl rfl ?_
  by_cases c : 3000 < xs.length ∨ 300 < ss.length
  · have hc : (decide (3000 < xs.length) || decide (300 < ss.length)) = true := by simpa using c
    rw [hc] at h0
    simp (disch := first | omega | with_unfolding_all rfl) [pf6, env0_eq, hf, h0, known_ok]
  · have hc : (decide (3000 < xs.length) || decide (300 < ss.length)) = false := by simp; omega
    rw [hc] at h0
    have h1 := h1 (by omega) (by omega)
    have h2 := h2 (by omega) (by omega)
    rcases h3 (by omega) with rfl | ⟨L, hL, rfl⟩
    · simp (disch := first | omega | with_unfolding_all rfl) [pf6, env0_eq, hf, h0, known_ok, h1, h2, sameNil_ok]
    · simp (disch := first | omega | with_unfolding_all rfl) [pf6, env0_eq, hf, h0, known_ok, h1, h2, same_ok (ss := L) (by omega)]
end Go.Proofs.Ytpnhdcjfhlcgoaa
end
