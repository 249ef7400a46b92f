/- Several texts in one: SpanCross, SpanCrossR, SpanCrossLaw. -/
import Derived.Test.YtpnhdcjfhlcgoaaSpanLstA
section
set_option linter.unusedVariables false
set_option linter.unusedSimpArgs false
set_option maxHeartbeats 4000000
set_option maxRecDepth 20000
namespace Go.Proofs.Ytpnhdcjfhlcgoaa
open Go.Proofs.Ytpnhdcjfhlcgoaa.PM

/-- The first place below n at which f holds. -/
def firstN (f : Nat → Bool) (n : Nat) : Option Nat := (List.range n).find? f
theorem firstN_some {f : Nat → Bool} {n i : Nat} (hi : i < n) (h : ∀ j, 0 ≤ j → j < i → f j = false) (hf : f i = true) : firstN f n = some i := by
  unfold firstN
  rw [List.find?_range_eq_some]
  exact ⟨hf, List.mem_range.2 hi, fun j hj => by simp [h j (Nat.zero_le _) hj]⟩
theorem firstN_none {f : Nat → Bool} {n : Nat} (h : ∀ j, j < n → f j = false) : firstN f n = none := by
  unfold firstN
  rw [List.find?_eq_none]
  intro x hx
  simp [h x (List.mem_range.1 hx)]

def hitA (W : Nat) (n side : Int) (s : Sp) : Bool := decide (s.a = n) && decide (side = dirI W s.a s.b)
def hitB (W : Nat) (n side : Int) (s : Sp) : Bool := decide (s.b = n) && decide (side = dirI W s.a s.b + 2)
def crP (W : Nat) (ss : List Sp) (n side : Int) : Int × Int × Int := match firstN (fun i => hitA W n side (spn ss i) || hitB W n side (spn ss i)) ss.length with
  | some i => (if hitA W n side (spn ss i) then (spn ss i).b else (spn ss i).a, ((btw W (spn ss i).a (spn ss i).b).length : Int), 0)
  | none => (0, 0, 2)
def crI (l : Ld) (ss : List Sp) (n side : Int) : Int × Int × Int := if lstErr l ss ≠ 0 then (0, 0, lstErr l ss) else if side < 0 ∨ 3 < side then (0, 0, 1) else crP l.w.toNat ss n side

theorem cross_ok {l : Ld} (hf : l.nl ≠ .bor) (hb : l.xs.length ≤ 3000) {snl : Nl} {ss : List Sp} (hss : ss.length ≤ 300) (n side : Int) : R tb 19 [vL l, lst snl ss, .int .i64 n, .int .i64 side] = some (.tup [.int .i64 (crI l ss n side).1, .int .i64 (crI l ss n side).2.1, .int .i64 (crI l ss n side).2.2]) := by
  have h1 := list_ok hf hb (snl := snl) hss
  have h3 : crI l ss n side = if lstErr l ss ≠ 0 then (0, 0, lstErr l ss) else if side < 0 ∨ 3 < side then (0, 0, 1) else crP l.w.toNat ss n side := rfl
  have h0 := fun h => lst_0 (l := l) (ss := ss) h
  have hst := fun (h : landErr l = 0) (s : Sp) (A B : Nat) (hA : A < l.w.toNat * l.h.toNat) (hB : B < l.w.toNat * l.h.toNat) => step_ok (good_nat h) (k := s.k) (u := s.u) hA hB
  have hln := fun (h : landErr l = 0) (s : Sp) (A B : Nat) (hab : A < B) (hB : B < l.w.toNat * l.h.toNat) (hd : byI l.w.toNat A B ≠ 0) => length_ok hf (good_nat h) (k := s.k) (u := s.u) hab hB hd
  have hse : ∀ s, errS l s = sErr l l.w.toNat l.h.toNat s.k s.a s.b s.u := fun _ => rfl
  generalize crI l ss n side = re at *
  generalize hle : lstErr l ss = le at *
  obtain ⟨w, hh, nl, xs⟩ := l
  dsimp only at hf h1 h3 hst hln hse
  refine R_of_G (F := pf19) rfl rfl rfl ?_
  by_cases c : le = 0
  case neg =>
    rw [if_pos c] at h3
    simp (disch := first | omega | with_unfolding_all rfl) [pf19, env0_eq, hf, h1, c, h3]
  rw [if_neg (by omega)] at h3
  obtain ⟨h01, h02⟩ := h0 c
  have hst := hst h01
  have hln := hln h01
  simp (disch := first | omega | with_unfolding_all rfl) [pf19, env0_eq, hf, h1, c]
  by_cases c1 : side < 0
  · rw [if_pos (.inl c1)] at h3
    simp (disch := first | omega | with_unfolding_all rfl) [c1, h3]
  by_cases c2 : 3 < side
  · rw [if_pos (.inr c2)] at h3
    simp (disch := first | omega | with_unfolding_all rfl) [c1, c2, h3]
  rw [if_neg (by omega)] at h3
  simp (disch := first | omega | with_unfolding_all rfl) [c1, c2]
  generalize w.toNat = W at *
  generalize hh.toNat = H at *
  refine G_scan (fun i e h => h = [] ∧ get e 2 = .int .i64 n ∧ get e 3 = .int .i64 side ∧ get e 4 = .pptr (!(nl != .bor)) [.int .i64 w, .int .i64 hh, lst nl xs] 0 ∧ get e 28 = lst snl ss ∧ get e 29 = .int .i64 (ss.length : Int) ∧ get e 30 = .int .i64 (i : Int))
    (fun i => hitA W n side (spn ss i) || hitB W n side (spn ss i)) ss.length 0 ?_ (Nat.zero_le _) ?_
  · simp
  · rintro i e h - hi hz ⟨rfl, g2, g3, g4, g28, g29, g30⟩
    simp (disch := first | omega | with_unfolding_all rfl) [g2, g3, g4, g28, g29, g30]
    refine G_brd (fun hlt => ?_) (fun hlt => ?_)
    · have hs := h02 i hlt
      rw [hse] at hs
      obtain ⟨hk, A, B, hA, hB, hab, hBN, hd, _, hn⟩ := sErr_0 hs
      have hst := hst (spn ss i) A B (by omega) hBN
      have hln := hln (spn ss i) A B hab hBN hd
      have hfst : (hitA W n side (spn ss i) || hitB W n side (spn ss i)) = true → crP W ss n side = (if hitA W n side (spn ss i) then (spn ss i).b else (spn ss i).a, ((btw W (spn ss i).a (spn ss i).b).length : Int), 0) := fun hb => by
        unfold crP
        rw [firstN_some hlt hz hb]
      have hA' : hitA W n side (spn ss i) = (decide ((spn ss i).a = n) && decide (side = dirI W (spn ss i).a (spn ss i).b)) := rfl
      have hB' : hitB W n side (spn ss i) = (decide ((spn ss i).b = n) && decide (side = dirI W (spn ss i).a (spn ss i).b + 2)) := rfl
      have hdr := dirI_rg W A B
      simp only [hA, hB] at hA' hB' hfst
      generalize hitA W n side (spn ss i) = pa at *
      generalize hitB W n side (spn ss i) = pb at *
      generalize dirI W A B = dr at *
      generalize (btw W A B).length = cnt at *
      simp (disch := first | omega | with_unfolding_all rfl) [hlt, spn_get, hA, hB, hst, hf]
      by_cases a1 : (A : Int) = n
      · subst a1
        by_cases a2 : side = dr
        · have hpa : pa = true := by rw [hA']; simp [a2]
          have hre := hfst (by simp [hpa])
          rw [hpa, if_pos rfl] at hre
          subst a2
          simp (disch := first | omega | with_unfolding_all rfl) [hst, hln, hf, h3, hre, trimOk]
        · have hpa : pa = false := by rw [hA']; simp [a2]
          have b1 : ¬ (B : Int) = (A : Int) := by omega
          have hpb : pb = false := by rw [hB']; simp [b1]
          simp (disch := first | omega | with_unfolding_all rfl) [a2, b1, hst, hf, hpa, hpb, hlt, trimOk]
      · have hpa : pa = false := by rw [hA']; simp [a1]
        simp (disch := first | omega | with_unfolding_all rfl) [a1]
        by_cases b1 : (B : Int) = n
        · subst b1
          by_cases b2 : side = dr + 2
          · have hpb : pb = true := by rw [hB']; simp [b2]
            have hre := hfst (by simp [hpb])
            rw [hpa, if_neg (by simp)] at hre
            subst b2
            simp (disch := first | omega | with_unfolding_all rfl) [hst, hln, hf, h3, hre, trimOk]
          · have hpb : pb = false := by rw [hB']; simp [b2]
            simp (disch := first | omega | with_unfolding_all rfl) [b2, hst, hf, hpa, hpb, hlt, trimOk]
        · have hpb : pb = false := by rw [hB']; simp [b1]
          simp (disch := first | omega | with_unfolding_all rfl) [b1, hst, hf, hpa, hpb, hlt, trimOk]
    · have hno : crP W ss n side = (0, 0, 2) := by
        unfold crP
        rw [firstN_none fun j hj => hz j (Nat.zero_le _) (by omega)]
      simp (disch := first | omega | with_unfolding_all rfl) [hlt, h3, hno]
end Go.Proofs.Ytpnhdcjfhlcgoaa
end

section
set_option linter.unusedVariables false
set_option linter.unusedSimpArgs false
set_option maxHeartbeats 4000000
set_option maxRecDepth 20000
namespace Go.Proofs.Ytpnhdcjfhlcgoaa
open Go.Proofs.Ytpnhdcjfhlcgoaa.PM

theorem gap_dir {W A B : Nat} (hW : 4 ≤ W) (hab : A < B) (hd : byI W A B ≠ 0) : gapI W A B ≠ 0 ∧ ((gapI W A B = 1 ∧ dirI W A B = 0) ∨ (gapI W A B ≠ 1 ∧ dirI W A B = 1)) := by
  have c9 : ¬ ((B : Int) ≤ A) := by omega
  rw [byI_gap, if_neg c9] at hd
  refine ⟨hd, ?_⟩
  unfold gapI at hd ⊢
  unfold dirI
  rw [if_neg c9]
  by_cases e1 : (A : Int).tdiv W = (B : Int).tdiv W
  · rw [if_pos e1, if_pos e1]; exact .inl ⟨rfl, rfl⟩
  · rw [if_neg e1] at hd ⊢
    rw [if_neg e1]
    by_cases e2 : (A : Int).tmod W = (B : Int).tmod W
    · rw [if_pos e2, if_pos e2]; exact .inr ⟨by omega, rfl⟩
    · rw [if_neg e2] at hd; exact absurd rfl hd

theorem crossR_ok {l : Ld} (hf : l.nl ≠ .bor) (hb : l.xs.length ≤ 3000) {snl : Nl} {ss : List Sp} (hss : ss.length ≤ 300) (n side : Int) : R tb 18 [vL l, lst snl ss, .int .i64 n, .int .i64 side] = some (.tup [.int .i64 (crI l ss n side).1, .int .i64 (crI l ss n side).2.1, .int .i64 (crI l ss n side).2.2]) := by
  have h1 := listR_ok hf hb (snl := snl) hss
  have h3 : crI l ss n side = if lstErr l ss ≠ 0 then (0, 0, lstErr l ss) else if side < 0 ∨ 3 < side then (0, 0, 1) else crP l.w.toNat ss n side := rfl
  have h0 := fun h => lst_0 (l := l) (ss := ss) h
  have hg4 := fun (h : landErr l = 0) => (good_nat h).w4
  have hst := fun (h : landErr l = 0) (s : Sp) (A B : Nat) (hA : A < l.w.toNat * l.h.toNat) (hB : B < l.w.toNat * l.h.toNat) => gap_ok hf (good_nat h) (k := s.k) (u := s.u) hA hB
  have hln := fun (h : landErr l = 0) (s : Sp) (A B : Nat) (hab : A < B) (hB : B < l.w.toNat * l.h.toNat) (hd : gapI l.w.toNat A B ≠ 0) => btwR_ok hf (good_nat h) (k := s.k) (u := s.u) hab hB hd
  have hse : ∀ s, errS l s = sErr l l.w.toNat l.h.toNat s.k s.a s.b s.u := fun _ => rfl
  generalize crI l ss n side = re at *
  generalize hle : lstErr l ss = le at *
  obtain ⟨w, hh, nl, xs⟩ := l
  dsimp only at hf h1 h3 hst hln hse hg4
  refine R_of_G (F := pf18) rfl rfl rfl ?_
  by_cases c : le = 0
  case neg =>
    rw [if_pos c] at h3
    simp (disch := first | omega | with_unfolding_all rfl) [pf18, env0_eq, hf, h1, c, h3]
  rw [if_neg (by omega)] at h3
  obtain ⟨h01, h02⟩ := h0 c
  have hst := hst h01
  have hln := hln h01
  have hg4 := hg4 h01
  simp (disch := first | omega | with_unfolding_all rfl) [pf18, env0_eq, hf, h1, c]
  by_cases c1 : side < 0
  · rw [if_pos (.inl c1)] at h3
    simp (disch := first | omega | with_unfolding_all rfl) [c1, h3]
  by_cases c2 : 3 < side
  · rw [if_pos (.inr c2)] at h3
    simp (disch := first | omega | with_unfolding_all rfl) [c1, c2, h3]
  rw [if_neg (by omega)] at h3
  simp (disch := first | omega | with_unfolding_all rfl) [c1, c2]
  generalize w.toNat = W at *
  generalize hh.toNat = H at *
  refine G_scan (fun i e h => h = [] ∧ get e 1 = lst snl ss ∧ get e 2 = .int .i64 n ∧ get e 3 = .int .i64 side ∧ get e 4 = .pptr (!(nl != .bor)) [.int .i64 w, .int .i64 hh, lst nl xs] 0 ∧ get e 12 = .int .i64 (i : Int))
    (fun i => hitA W n side (spn ss i) || hitB W n side (spn ss i)) ss.length 0 ?_ (Nat.zero_le _) ?_
  · simp
  · rintro i e h - hi hz ⟨rfl, g1, g2, g3, g4, g12⟩
    simp (disch := first | omega | with_unfolding_all rfl) [g1, g2, g3, g4, g12]
    refine G_brd (fun hlt => ?_) (fun hlt => ?_)
    · have hs := h02 i hlt
      rw [hse] at hs
      obtain ⟨hk, A, B, hA, hB, hab, hBN, hd, _, hn⟩ := sErr_0 hs
      obtain ⟨hgd0, hgd⟩ := gap_dir hg4 hab hd
      have hst := hst (spn ss i) A B (by omega) hBN
      have hln := hln (spn ss i) A B hab hBN hgd0
      have hfst : (hitA W n side (spn ss i) || hitB W n side (spn ss i)) = true → crP W ss n side = (if hitA W n side (spn ss i) then (spn ss i).b else (spn ss i).a, ((btw W (spn ss i).a (spn ss i).b).length : Int), 0) := fun hb => by
        unfold crP
        rw [firstN_some hlt hz hb]
      have hA' : hitA W n side (spn ss i) = (decide ((spn ss i).a = n) && decide (side = dirI W (spn ss i).a (spn ss i).b)) := rfl
      have hB' : hitB W n side (spn ss i) = (decide ((spn ss i).b = n) && decide (side = dirI W (spn ss i).a (spn ss i).b + 2)) := rfl
      simp only [hA, hB] at hA' hB' hfst
      have hcl : ((btw W A B).length : Int) ≤ 10 := by omega
      generalize hitA W n side (spn ss i) = pa at *
      generalize hitB W n side (spn ss i) = pb at *
      generalize dirI W A B = dr at *
      generalize btw W A B = ts at *
      generalize gapI W A B = gp at *
      obtain ⟨hg1, rfl⟩ | ⟨hg1, rfl⟩ := hgd
      · simp (disch := first | omega | with_unfolding_all rfl) [hlt, spn_get, hA, hB, hst, hf, hg1]
        by_cases a1 : (A : Int) = n
        · subst a1
          by_cases a2 : side = 0
          · have hpa : pa = true := by rw [hA']; simp [a2]
            have hre := hfst (by simp [hpa])
            rw [hpa, if_pos rfl] at hre
            subst a2
            simp (disch := first | omega | with_unfolding_all rfl) [hst, hln, hf, h3, hre, trimOk]
          · have hpa : pa = false := by rw [hA']; simp [a2]
            have b1 : ¬ (B : Int) = (A : Int) := by omega
            have hpb : pb = false := by rw [hB']; simp [b1]
            simp (disch := first | omega | with_unfolding_all rfl) [a2, b1, hst, hf, hpa, hpb, hlt, trimOk]
        · have hpa : pa = false := by rw [hA']; simp [a1]
          simp (disch := first | omega | with_unfolding_all rfl) [a1]
          by_cases b1 : (B : Int) = n
          · subst b1
            by_cases b2 : side = 2
            · have hpb : pb = true := by rw [hB']; simp [b2]
              have hre := hfst (by simp [hpb])
              rw [hpa, if_neg (by simp)] at hre
              subst b2
              simp (disch := first | omega | with_unfolding_all rfl) [hst, hln, hf, h3, hre, trimOk]
            · have hpb : pb = false := by rw [hB']; simp [b2]
              simp (disch := first | omega | with_unfolding_all rfl) [b2, hst, hf, hpa, hpb, hlt, trimOk]
          · have hpb : pb = false := by rw [hB']; simp [b1]
            simp (disch := first | omega | with_unfolding_all rfl) [b1, hst, hf, hpa, hpb, hlt, trimOk]
      · simp (disch := first | omega | with_unfolding_all rfl) [hlt, spn_get, hA, hB, hst, hf, hg1]
        by_cases a1 : (A : Int) = n
        · subst a1
          by_cases a2 : side = 1
          · have hpa : pa = true := by rw [hA']; simp [a2]
            have hre := hfst (by simp [hpa])
            rw [hpa, if_pos rfl] at hre
            subst a2
            simp (disch := first | omega | with_unfolding_all rfl) [hst, hln, hf, h3, hre, trimOk]
          · have hpa : pa = false := by rw [hA']; simp [a2]
            have b1 : ¬ (B : Int) = (A : Int) := by omega
            have hpb : pb = false := by rw [hB']; simp [b1]
            simp (disch := first | omega | with_unfolding_all rfl) [a2, b1, hst, hf, hpa, hpb, hlt, trimOk]
        · have hpa : pa = false := by rw [hA']; simp [a1]
          simp (disch := first | omega | with_unfolding_all rfl) [a1]
          by_cases b1 : (B : Int) = n
          · subst b1
            by_cases b2 : side = 3
            · have hpb : pb = true := by rw [hB']; simp [b2]
              have hre := hfst (by simp [hpb])
              rw [hpa, if_neg (by simp)] at hre
              subst b2
              simp (disch := first | omega | with_unfolding_all rfl) [hst, hln, hf, h3, hre, trimOk]
            · have hpb : pb = false := by rw [hB']; simp [b2]
              simp (disch := first | omega | with_unfolding_all rfl) [b2, hst, hf, hpa, hpb, hlt, trimOk]
          · have hpb : pb = false := by rw [hB']; simp [b1]
            simp (disch := first | omega | with_unfolding_all rfl) [b1, hst, hf, hpa, hpb, hlt, trimOk]
    · have hno : crP W ss n side = (0, 0, 2) := by
        unfold crP
        rw [firstN_none fun j hj => hz j (Nat.zero_le _) (by omega)]
      simp (disch := first | omega | with_unfolding_all rfl) [hlt, h3, hno]
end Go.Proofs.Ytpnhdcjfhlcgoaa
end

section
set_option linter.unusedVariables false
set_option linter.unusedSimpArgs false
set_option maxHeartbeats 4000000
set_option maxRecDepth 20000
namespace Go.Proofs.Ytpnhdcjfhlcgoaa
open Go.Proofs.Ytpnhdcjfhlcgoaa.PM

theorem far_ok {l : Ld} (hf : l.nl ≠ .bor) (hb : l.xs.length ≤ maxLen) {snl : Nl} {ss : List Sp} (hs : ss.length ≤ maxLen) : R tb 12 [vL l, lst snl ss] = some (.bool (decide (3000 < l.xs.length) || decide (300 < ss.length))) := by
  obtain ⟨w, hh, nl, xs⟩ := l
  have hm : maxLen = 9223372036854775807 := rfl
  dsimp only at hf hb
  refine R_of_G (F := pf12) rfl rfl rfl ?_
  simp (disch := first | omega | with_unfolding_all rfl) [pf12, env0_eq, hf]
  by_cases c : (3000 : Int) < xs.length
  · have c' : 3000 < xs.length := by omega
    simp (disch := first | omega | with_unfolding_all rfl) [c, c']
  · have c' : ¬ 3000 < xs.length := by omega
    simp (disch := first | omega | with_unfolding_all rfl) [c, c']
    by_cases d : (300 : Int) < ss.length
    · have d' : 300 < ss.length := by omega
      simp [d, d']
    · have d' : ¬ 300 < ss.length := by omega
      simp [d, d']
theorem crosses_ok {l : Ld} (hf : l.nl ≠ .bor) (hb : l.xs.length ≤ maxLen) {snl : Nl} {ss : List Sp} (hs : ss.length ≤ maxLen) (n side : Int) : R tb 5 [vL l, lst snl ss, .int .i64 n, .int .i64 side] = some (.bool true) := by
  have h0 := far_ok hf hb (snl := snl) hs
  have h1 := fun (h : l.xs.length ≤ 3000) (h' : ss.length ≤ 300) => cross_ok hf h (snl := snl) h' n side
  have h2 := fun (h : l.xs.length ≤ 3000) (h' : ss.length ≤ 300) => crossR_ok hf h (snl := snl) h' n side
  generalize crI l ss n side = re at *
  obtain ⟨w, hh, nl, xs⟩ := l
  dsimp only at hf hb h0 h1 h2
  refine R_of_G (F := pf5) rfl rfl rfl ?_
  by_cases c : 3000 < xs.length ∨ 300 < ss.length
  · have hc : (decide (3000 < xs.length) || decide (300 < ss.length)) = true := by simpa using c
    rw [hc] at h0
    simp (disch := first | omega | with_unfolding_all rfl) [pf5, env0_eq, hf, h0, known_ok]
  · have hc : (decide (3000 < xs.length) || decide (300 < ss.length)) = false := by simp; omega
    rw [hc] at h0
    simp (disch := first | omega | with_unfolding_all rfl) [pf5, env0_eq, hf, h0, known_ok, h1 (by omega) (by omega), h2 (by omega) (by omega)]
end Go.Proofs.Ytpnhdcjfhlcgoaa
end
