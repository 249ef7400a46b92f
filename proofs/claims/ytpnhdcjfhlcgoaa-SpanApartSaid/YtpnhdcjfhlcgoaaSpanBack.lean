/- Spans: there and back. -/
import Derived.Test.YtpnhdcjfhlcgoaaSpanPlain
set_option linter.unusedVariables false
set_option linter.unusedSimpArgs false
set_option maxHeartbeats 4000000
set_option maxRecDepth 20000
namespace Go.Proofs.Ytpnhdcjfhlcgoaa
open Go.Proofs.Ytpnhdcjfhlcgoaa.PM

/-- A list that was made by adding. -/
def Made (l : Ld) (ss : List Sp) : Prop := ss = [] ∨ (lstErr l ss = 0 ∧ NM l ss ∧ ss.length ≤ 40)
theorem Made.nm {l : Ld} {ss : List Sp} (h : Made l ss) : NM l ss := by
  rcases h with rfl | h
  · exact List.Pairwise.nil
  · exact h.2.1
theorem Made.le {l : Ld} {ss : List Sp} (h : Made l ss) : ss.length ≤ 40 := by
  rcases h with rfl | h
  · simp
  · exact h.2.2
theorem Made.add {l : Ld} {ss : List Sp} {s : Sp} (h : Made l ss) (h0 : addE l ss s = 0) : Made l (srtS (ss ++ [s])) := by
  refine .inr ⟨add_lst h0, add_NM h0 h.nm, ?_⟩
  have := (addE_0 h0).2.2.2
  rw [len_srtS]; simp; omega
theorem hit_share {W : Nat} {n' side' : Int} {s t : Sp} (h1 : n' = s.a ∨ n' = s.b) (h2 : (hitA W n' side' t || hitB W n' side' t) = true) : shareB s t = true := by
  unfold hitA hitB at h2
  unfold shareB
  simp only [Bool.or_eq_true, Bool.and_eq_true, decide_eq_true_eq] at h2 ⊢
  omega
theorem crP_some {W : Nat} {ss : List Sp} {n side : Int} {i : Nat} (h : firstN (fun i => hitA W n side (spn ss i) || hitB W n side (spn ss i)) ss.length = some i) :
    crP W ss n side = (if hitA W n side (spn ss i) then (spn ss i).b else (spn ss i).a, ((btw W (spn ss i).a (spn ss i).b).length : Int), 0) := by unfold crP; rw [h]
theorem crP_none {W : Nat} {ss : List Sp} {n side : Int} (h : firstN (fun i => hitA W n side (spn ss i) || hitB W n side (spn ss i)) ss.length = none) :
    crP W ss n side = (0, 0, 2) := by unfold crP; rw [h]
theorem firstN_spec {f : Nat → Bool} {n i : Nat} (h : firstN f n = some i) : i < n ∧ f i = true := by
  unfold firstN at h
  rw [List.find?_range_eq_some] at h
  exact ⟨List.mem_range.1 h.2.1, h.1⟩
/-- Who crosses comes back where they began. -/
theorem cross_back {l : Ld} {ss : List Sp} {n side : Int} (h : Made l ss) (h0 : (crI l ss n side).2.2 = 0) :
    crI l ss (crI l ss n side).1 ((side + 2).tmod 4) = (n, (crI l ss n side).2.1, 0) := by
  have hnm := h.nm
  unfold crI at h0
  split at h0
  · rename_i h1; exact absurd h0 h1
  rename_i h1
  split at h0
  · cases h0
  rename_i h2
  have e0 : crI l ss n side = crP l.w.toNat ss n side := by unfold crI; rw [if_neg h1, if_neg h2]
  rw [e0]
  have hl0 : lstErr l ss = 0 := by simpa using h1
  have hm : (side + 2).tmod 4 = if side < 2 then side + 2 else side - 2 := by
    rw [Int.tmod_eq_emod_of_nonneg (by omega)]
    split <;> omega
  have e1 : ∀ n', crI l ss n' ((side + 2).tmod 4) = crP l.w.toNat ss n' ((side + 2).tmod 4) := fun n' => by
    unfold crI
    rw [if_neg h1, if_neg (by rw [hm]; split <;> omega)]
  rw [e1]
  have hc0 : (crP l.w.toNat ss n side).2.2 = 0 := by rw [← e0]; unfold crI; rw [if_neg h1, if_neg h2]; exact h0
  clear e0 e1 h0 h
  generalize l.w.toNat = W at *
  cases hF : firstN (fun i => hitA W n side (spn ss i) || hitB W n side (spn ss i)) ss.length with
  | none =>
    rw [crP_none hF] at hc0
    cases hc0
  | some i =>
    rw [crP_some hF]
    dsimp only
    obtain ⟨hi, hh⟩ := firstN_spec hF
    have hd := dirI_rg W (spn ss i).a (spn ss i).b
    have key : ∀ n', (n' = (spn ss i).a ∨ n' = (spn ss i).b) → (hitA W n' ((side + 2).tmod 4) (spn ss i) || hitB W n' ((side + 2).tmod 4) (spn ss i)) = true →
        firstN (fun j => hitA W n' ((side + 2).tmod 4) (spn ss j) || hitB W n' ((side + 2).tmod 4) (spn ss j)) ss.length = some i := fun n' hn' hg => by
      refine firstN_some hi (fun j _ hj => ?_) hg
      cases hgj : (hitA W n' ((side + 2).tmod 4) (spn ss j) || hitB W n' ((side + 2).tmod 4) (spn ss j))
      · rfl
      · have := hit_share (s := spn ss i) hn' hgj
        rw [NM_share hnm hi (by omega) (by omega)] at this
        cases this
    generalize hT : spn ss i = T at *
    have hlen : ∀ q : Sp, q = T → ((btw W q.a q.b).length : Int) = ((btw W T.a T.b).length : Int) := fun q hq => by rw [hq]
    by_cases hA : hitA W n side T = true
    · have hA' := hA
      unfold hitA at hA'
      simp only [Bool.and_eq_true, decide_eq_true_eq] at hA'
      have hBt : hitB W T.b ((side + 2).tmod 4) T = true := by
        unfold hitB
        simp only [Bool.and_eq_true, decide_eq_true_eq]
        refine ⟨trivial, ?_⟩
        rw [hm, if_pos (by omega)]; omega
      have hAf : hitA W T.b ((side + 2).tmod 4) T = false := by
        unfold hitA
        have : ¬ (side + 2).tmod 4 = dirI W T.a T.b := by rw [hm, if_pos (by omega)]; omega
        simp [this]
      have hk := key T.b (.inr rfl) (by rw [hBt]; simp)
      rw [if_pos hA, crP_some hk, hT, hAf]
      simp [hA'.1]
    · have hA0 : hitA W n side T = false := by simpa using hA
      rw [hA0, Bool.false_or] at hh
      unfold hitB at hh
      simp only [Bool.and_eq_true, decide_eq_true_eq] at hh
      have hAt : hitA W T.a ((side + 2).tmod 4) T = true := by
        unfold hitA
        simp only [Bool.and_eq_true, decide_eq_true_eq]
        refine ⟨trivial, ?_⟩
        rw [hm, if_neg (by omega)]; omega
      have hk := key T.a (.inl rfl) (by rw [hAt]; simp)
      rw [if_neg hA, crP_some hk, hT, if_pos hAt]
      simp [hh.1]

theorem back_ok {l : Ld} (hf : l.nl ≠ .bor) (hb : l.xs.length ≤ maxLen) {ss : List Sp} (hs : ss.length ≤ maxLen) (n side : Int) : R tbS 10 [vL l, lst .any ss, .int .i64 n, .int .i64 side] = some (.bool true) := by
  have h0 := M2 (n2 := natX) (far_ok hf hb (snl := .any) hs)
  have h1 := fun (h : l.xs.length ≤ 3000) (snl : Nl) (L : List Sp) (hsn : L ≠ [] → snl = .any) (h' : Made l L) s => add_ok hf h (snl := snl) hsn (Nat.le_trans h'.le (by omega)) s
  have h2 := fun (h : l.xs.length ≤ 3000) (snl : Nl) (L : List Sp) (h' : Made l L) n side => M2 (n2 := natX) (cross_ok hf h (snl := snl) (ss := L) (Nat.le_trans h'.le (by omega)) n side)
  have h3 := fun (L : List Sp) (h : Made l L) (h0 : (crI l L n side).2.2 = 0) => cross_back h h0
  have hk := M2 (n2 := natX) known_ok
  have hV : ∀ L s, addV l L s = if addE l L s ≠ 0 then .list .nil 1 [] else lst .any (srtS (L ++ [s])) := fun _ _ => rfl
  have hMa := fun (L : List Sp) (s : Sp) (h : Made l L) (h0 : addE l L s = 0) => h.add h0
  have hM0 : Made l [] := .inl rfl
  have hside : ∀ L, (crI l L n side).2.2 = 0 → 0 ≤ side ∧ side ≤ 3 := fun L h => by
    unfold crI at h
    split at h
    · rename_i h1; exact absurd h h1
    split at h
    · cases h
    · omega
  generalize hMM : Made l = M at *
  change R (tbM natX) 10 _ = _
  by_cases c : 3000 < l.xs.length ∨ 300 < ss.length
  · have hc : (decide (3000 < l.xs.length) || decide (300 < ss.length)) = true := by simpa using c
    rw [hc] at h0
    obtain ⟨w, hh, nl, xs⟩ := l
    dsimp only at hf hb h0
    refine R_of_G (F := pf10) (M_nat rfl) rfl rfl ?_
    simp (disch := first | omega | with_unfolding_all rfl) [pf10, env0_eq, hf, h0, hk]
  · have hc : (decide (3000 < l.xs.length) || decide (300 < ss.length)) = false := by simp; omega
    rw [hc] at h0
    have h1 := h1 (by omega)
    have h2 := h2 (by omega)
    change ∀ snl L _ _ s, R (tbM natX) 28 _ = _ at h1
    generalize addV l = aV at *
    generalize addN l = aN at *
    generalize addE l = aE at *
    generalize crI l = cr at *
    obtain ⟨w, hh, nl, xs⟩ := l
    dsimp only at hf hb h0 h1 h2
    refine R_of_G (F := pf10) (M_nat rfl) rfl rfl ?_
    simp (disch := first | omega | with_unfolding_all rfl) [pf10, env0_eq, hf, h0, hk]
    refine G_loop (fun i e h => i ≤ ss.length ∧ h = [] ∧ get e 1 = lst .any ss ∧ get e 2 = .int .i64 n ∧ get e 3 = .int .i64 side ∧ get e 4 = .pptr (!(nl != .bor)) [.int .i64 w, .int .i64 hh, lst nl xs] 0 ∧ get e 10 = .int .i64 (i : Int) ∧
      ∃ snl L, get e 9 = lst snl L ∧ (L ≠ [] → snl = .any) ∧ M L) (fun i => ss.length - i) (a₀ := 0) ?_ ?_
    · simp
      exact ⟨.nil, [], rfl, by simp, hM0⟩
    rintro i e h ⟨hi, rfl, g1, g2, g3, g4, g10, snl, L, g9, hsn, hL⟩
    simp (disch := first | omega | with_unfolding_all rfl) [g1, g2, g3, g4, g9, g10]
    refine G_brd (fun hlt => ?_) (fun hlt => ?_)
    · have h1 := h1 snl L hsn hL (spn ss i)
      simp (disch := first | omega | with_unfolding_all rfl) [hlt, spn_get, hf, h1]
      have hV := hV L (spn ss i)
      have hMa := hMa L (spn ss i) hL
      refine G_brd (fun h5 => ?_) (fun h5 => ?_)
      · rw [if_neg (by simpa using h5)] at hV
        simp (disch := first | omega | with_unfolding_all rfl) [hV]
        exact ⟨i + 1, by omega, by omega, by push_cast; rfl, .any, _, rfl, fun _ => rfl, hMa h5⟩
      · simp (disch := first | omega | with_unfolding_all rfl) []
        exact ⟨i + 1, by omega, by omega, by push_cast; rfl, snl, L, rfl, hsn, hL⟩
    · have h2 := h2 snl L hL
      have ha := h2 n side
      simp (disch := first | omega | with_unfolding_all rfl) [hf, ha]
      by_cases h6 : (cr L n side).2.2 = 0
      case neg => simp (disch := first | omega | with_unfolding_all rfl) [h6, hk]
      obtain ⟨s0, s1⟩ := hside L h6
      have h3 := h3 L hL h6
      have hbk := h2 (cr L n side).1 ((side + 2).tmod 4)
      rw [h3] at hbk
      simp (disch := first | omega | with_unfolding_all rfl) [h6, hf, hk, hbk]
end Go.Proofs.Ytpnhdcjfhlcgoaa
