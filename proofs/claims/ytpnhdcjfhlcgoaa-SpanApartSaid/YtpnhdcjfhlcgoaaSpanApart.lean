/- Spans: lists that are made by adding. -/
import Derived.Test.YtpnhdcjfhlcgoaaSpanApart0
set_option linter.unusedVariables false
set_option linter.unusedSimpArgs false
set_option maxHeartbeats 4000000
set_option maxRecDepth 20000
namespace Go.Proofs.Ytpnhdcjfhlcgoaa
open Go.Proofs.Ytpnhdcjfhlcgoaa.PM

/-- What holds of the list that was made: a list that is right, of at most 40 spans. -/
structure Mk (l : Ld) (L : List Sp) : Prop where
  made : Made l L
  sum : 0 ≤ sumC l.w.toNat L ∧ sumC l.w.toNat L ≤ 40000000
theorem Mk.prs {l : Ld} {L : List Sp} (h : Made l L) : ∀ s ∈ L, 0 ≤ pr l.w.toNat s ∧ pr l.w.toNat s ≤ 1000000 := by
  intro s hs
  rcases h with rfl | h
  · simp at hs
  · have := ((lst_iff l L).1 h.1).2.2 s hs
    obtain ⟨hk, A, B, hA, hB, hab, hBN, hd, _, hnn⟩ := sErr_0 this
    unfold pr
    rw [hA, hB]
    exact prI_nn hk (by omega)
theorem Made.sum {l : Ld} {L : List Sp} (h : Made l L) : 0 ≤ sumC l.w.toNat L ∧ sumC l.w.toNat L ≤ 40000000 := by
  have h1 := sumC_rg (Mk.prs h)
  have h2 := h.le
  omega
theorem Made.take {l : Ld} {L : List Sp} (h : Made l L) (i : Nat) : 0 ≤ sumC l.w.toNat (L.take i) ∧ sumC l.w.toNat (L.take i) ≤ 40000000 := by
  have h1 := sumC_rg (L := L.take i) (fun s hs => Mk.prs h s (List.mem_of_mem_take hs))
  have h2 := h.le
  have h3 : (L.take i).length ≤ L.length := by simp; omega
  omega
theorem Made.one {l : Ld} {L : List Sp} (h : Made l L) {i : Nat} (hi : i < L.length) : vErr l (spn L i).k (spn L i).a (spn L i).b (spn L i).u = 0 ∧ costI l (spn L i).k (spn L i).a (spn L i).b (spn L i).u = pr l.w.toNat (spn L i) := by
  rcases h with rfl | h
  · simp at hi
  · obtain ⟨h1, _, h2⟩ := (lst_iff l L).1 h.1
    have h3 := h2 L[i] (List.getElem_mem hi)
    rw [spn_get] at h3
    have h4 : vErr l (spn L i).k (spn L i).a (spn L i).b (spn L i).u = 0 := by
      unfold vErr
      rw [if_pos h1]
      exact h3
    refine ⟨h4, ?_⟩
    unfold costI pr
    rw [if_pos h4]
    have hw := (good_nat h1).w
    rw [← hw]
theorem Made.ov {l : Ld} {L : List Sp} (h : Made l L) (h0 : L ≠ []) {t : Nat} (ht : t < l.w.toNat * l.h.toNat) : ovE l L t = 0 ∧ ovV l L t = lst .any (L.filter (ovp l.w.toNat t)) := by
  rcases h with rfl | h
  · exact absurd rfl h0
  have h1 : ovE l L t = 0 := by
    unfold ovE
    rw [if_neg (by rw [h.1]; simp), if_pos ⟨by omega, by exact_mod_cast ht⟩]
  refine ⟨h1, ?_⟩
  unfold ovV
  rw [if_pos h1]
theorem Made.good {l : Ld} {L : List Sp} (h : Made l L) (h0 : L ≠ []) : l.w = l.w.toNat ∧ l.h = l.h.toNat ∧ l.w.toNat * l.h.toNat ≤ 1024 := by
  rcases h with rfl | h
  · exact absurd rfl h0
  · have g := good_nat ((lst_iff l L).1 h.1).1
    exact ⟨g.w, g.h, wh_le g⟩

theorem Made.kk {l : Ld} {L : List Sp} (h : Made l L) : ∀ s ∈ L, s.k = 0 ∨ s.k = 1 := by
  intro s hs
  rcases h with rfl | h
  · simp at hs
  · obtain ⟨hk, _⟩ := sErr_0 (((lst_iff l L).1 h.1).2.2 s hs)
    exact hk
theorem apartL_ok {l : Ld} (hf : l.nl ≠ .bor) (hb : l.xs.length ≤ maxLen) {ss : List Sp} (hs : ss.length ≤ maxLen) : R tbS 9 [vL l, lst .any ss] = some (.bool true) := by
  have h0 := M2 (n2 := natX) (far_ok hf hb (snl := .any) hs)
  have h1 := fun (h : l.xs.length ≤ 3000) (snl : Nl) (L : List Sp) (hsn : L ≠ [] → snl = .any) (h' : Made l L) s => add_ok hf h (snl := snl) hsn (Nat.le_trans h'.le (by omega)) s
  have hov := fun (h : l.xs.length ≤ 3000) (snl : Nl) (L : List Sp) (h' : Made l L) n => M2 (n2 := natX) (over_ok hf h (snl := snl) (ss := L) (Nat.le_trans h'.le (by omega)) n)
  have hco := fun (h : l.xs.length ≤ 3000) (s : Sp) => M2 (n2 := natX) (cost_ok hf h s.k s.a s.b s.u)
  have hva := fun (h : l.xs.length ≤ 3000) (s : Sp) => M2 (n2 := natX) (val_ok hf h s.k s.a s.b s.u)
  have hk := M2 (n2 := natX) known_ok
  have hV : ∀ L s, addV l L s = if addE l L s ≠ 0 then .list .nil 1 [] else lst .any (srtS (L ++ [s])) := fun _ _ => rfl
  have hN : ∀ L s, addN l L s = if addE l L s ≠ 0 then 0 else pr l.w.toNat s := fun _ _ => rfl
  have hMa := fun (L : List Sp) (s : Sp) (h : Made l L) (h0 : addE l L s = 0) => h.add h0
  have hM0 : Made l [] := .inl rfl
  have hle := fun (L : List Sp) (h : Made l L) => h.le
  have hsum := fun (L : List Sp) (h : Made l L) => h.sum
  have htake := fun (L : List Sp) (h : Made l L) (i : Nat) => h.take i
  have hone := fun (L : List Sp) (h : Made l L) (i : Nat) (hi : i < L.length) => h.one hi
  have hcov := fun (L : List Sp) (h : Made l L) (h0 : L ≠ []) (t : Nat) (ht : t < l.w.toNat * l.h.toNat) => h.ov h0 ht
  have hgd := fun (L : List Sp) (h : Made l L) (h0 : L ≠ []) => h.good h0
  have hsh := fun (L : List Sp) (h : Made l L) (i j : Nat) (hi : i < L.length) (hj : j < L.length) (hij : i ≠ j) => NM_share h.nm hi hj hij
  have hon1 := fun (L : List Sp) (h : Made l L) (t : Int) => over_1 h t
  have hkk := fun (L : List Sp) (h : Made l L) => h.kk
  generalize hMM : Made l = M at *
  change R (tbM natX) 9 _ = _
  by_cases c : 3000 < l.xs.length ∨ 300 < ss.length
  · have hc : (decide (3000 < l.xs.length) || decide (300 < ss.length)) = true := by simpa using c
    rw [hc] at h0
    obtain ⟨w, hh, nl, xs⟩ := l
    dsimp only at hf hb h0
    refine R_of_G (F := pf9) (M_nat rfl) rfl rfl ?_
    simp (disch := first | omega | with_unfolding_all rfl) [pf9, env0_eq, hf, h0, hk]
  · have hc : (decide (3000 < l.xs.length) || decide (300 < ss.length)) = false := by simp; omega
    rw [hc] at h0
    have h1 := h1 (by omega)
    have hov := hov (by omega)
    have hco := hco (by omega)
    have hva := hva (by omega)
    change ∀ snl L _ _ s, R (tbM natX) 28 _ = _ at h1
    generalize addV l = aV at *
    generalize addN l = aN at *
    generalize addE l = aE at *
    generalize ovV l = oV at *
    generalize ovE l = oE at *
    generalize vErr l = vE at *
    generalize costI l = cI at *
    obtain ⟨w, hh, nl, xs⟩ := l
    dsimp only at hf hb h0 h1 hov hco hva hN hsum htake hone hcov hgd hon1
    refine R_of_G (F := pf9) (M_nat rfl) rfl rfl ?_
    simp (disch := first | omega | with_unfolding_all rfl) [pf9, env0_eq, hf, h0, hk]
    refine G_loop (fun i e h => i ≤ ss.length ∧ h = [] ∧ get e 1 = lst .any ss ∧ get e 2 = .pptr (!(nl != .bor)) [.int .i64 w, .int .i64 hh, lst nl xs] 0 ∧ get e 7 = .int .i64 0 ∧ get e 8 = .int .i64 (i : Int) ∧
      ∃ snl L, get e 5 = lst snl L ∧ get e 6 = .int .i64 (sumC w.toNat L) ∧ (L ≠ [] → snl = .any) ∧ M L) (fun i => ss.length - i) (a₀ := 0) ?_ ?_
    · simp
      exact ⟨.nil, [], rfl, rfl, by simp, hM0⟩
    rintro i e h ⟨hi, rfl, g1, g2, g7, g8, snl, L, g5, g6, hsn, hL⟩
    simp (disch := first | omega | with_unfolding_all rfl) [g1, g2, g5, g6, g7, g8]
    obtain ⟨hs0, hs1⟩ := hsum L hL
    refine G_brd (fun hlt => ?_) (fun hlt => ?_)
    · have h1 := h1 snl L hsn hL (spn ss i)
      simp (disch := first | omega | with_unfolding_all rfl) [hlt, spn_get, hf, h1]
      have hV := hV L (spn ss i)
      have hN := hN L (spn ss i)
      have hMa := hMa L (spn ss i) hL
      refine G_brd (fun h5 => ?_) (fun h5 => ?_)
      · rw [if_neg (by simpa using h5)] at hV hN
        have hL2 := hMa h5
        obtain ⟨q0, q1⟩ := hsum _ hL2
        have hadd := sumC_add (W := w.toNat) (L := L) (s := spn ss i)
        rw [hadd] at q0 q1
        simp (disch := first | omega | with_unfolding_all rfl) [hV, hN]
        exact ⟨i + 1, by omega, by omega, by push_cast; rfl, .any, _, rfl, by rw [hadd], fun _ => rfl, hL2⟩
      · simp (disch := first | omega | with_unfolding_all rfl) []
        exact ⟨i + 1, by omega, by omega, by push_cast; rfl, snl, L, rfl, rfl, hsn, hL⟩
    · simp (disch := first | omega | with_unfolding_all rfl) []
      have hLl := hle L hL
      have htk := htake L hL
      have hone := hone L hL
      have hsh := hsh L hL
      refine G_loop (fun i e h => i ≤ L.length ∧ h = [] ∧ get e 2 = .pptr (!(nl != .bor)) [.int .i64 w, .int .i64 hh, lst nl xs] 0 ∧ get e 5 = lst snl L ∧ get e 6 = .int .i64 (sumC w.toNat L) ∧ get e 7 = .int .i64 (sumC w.toNat (L.take i)) ∧ get e 12 = .int .i64 (i : Int)) (fun i => L.length - i) (a₀ := 0) ?_ ?_
      · simp [sumC]
      rintro i e h ⟨hi, rfl, g2, g5, g6, g7, g12⟩
      simp (disch := first | omega | with_unfolding_all rfl) [g2, g5, g6, g7, g12]
      obtain ⟨q0, q1⟩ := htk i
      refine G_brd (fun hlt => ?_) (fun hlt => ?_)
      · obtain ⟨o1, o2⟩ := hone i hlt
        have hco := hco (spn L i)
        have hva := hva (spn L i)
        obtain ⟨q2, q3⟩ := htk (i + 1)
        have hst := sumC_take (W := w.toNat) hlt
        rw [hst] at q2 q3
        rw [o1] at hva
        rw [o1, o2] at hco
        generalize pr w.toNat (spn L i) = p at *
        simp (disch := first | omega | with_unfolding_all rfl) [hlt, spn_get, hf, hco, hva]
        refine G_loop (fun j e h => j ≤ i ∧ h = [] ∧ get e 2 = .pptr (!(nl != .bor)) [.int .i64 w, .int .i64 hh, lst nl xs] 0 ∧ get e 5 = lst snl L ∧ get e 6 = .int .i64 (sumC w.toNat L) ∧ get e 7 = .int .i64 (sumC w.toNat (L.take i) + p) ∧ get e 12 = .int .i64 (i : Int) ∧ get e 15 = .int .i64 (j : Int)) (fun j => i - j) (a₀ := 0) ?_ ?_
        · simp
        rintro j e h ⟨hj, rfl, g2, g5, g6, g7, g12, g15⟩
        simp (disch := first | omega | with_unfolding_all rfl) [g2, g5, g6, g7, g12, g15]
        refine G_brd (fun hlt2 => ?_) (fun hlt2 => ?_)
        · have hn := hsh i j hlt (by omega) (by omega)
          unfold shareB at hn
          simp only [Bool.or_eq_false_iff, decide_eq_false_iff_not] at hn
          obtain ⟨⟨⟨n1, n2⟩, n3⟩, n4⟩ := hn
          have hjl : j < L.length := by omega
          simp (disch := first | omega | with_unfolding_all rfl) [hlt, hjl, spn_get, n1, n2, n3, n4]
          exact ⟨j + 1, by omega, by omega, by push_cast; rfl⟩
        · simp (disch := first | omega | with_unfolding_all rfl) []
          exact ⟨i + 1, by omega, by omega, by rw [hst], by push_cast; rfl⟩
      · simp (disch := first | omega | with_unfolding_all rfl) []
        obtain rfl : i = L.length := by omega
        rw [List.take_length]
        generalize sumC w.toNat L = S at *
        by_cases hL0 : L = []
        · subst hL0
          rw [G_unroll]
          simp (disch := first | omega | with_unfolding_all rfl) []
          by_cases cz : 0 < IntKind.wrap .i64 (w * hh)
          · simp (disch := first | omega | with_unfolding_all rfl) [cz, hk]
          · simp (disch := first | omega | with_unfolding_all rfl) [cz, hk]
        obtain ⟨z1, z2, z3⟩ := hgd L hL hL0
        have hov := hov snl L hL
        have hcov := hcov L hL hL0
        have hon1 := hon1 L hL
        have hkk := hkk L hL
        have hm : w * hh = ((w.toNat * hh.toNat : Nat) : Int) := by rw [z1, z2]; push_cast; simp
        have hLp : 0 < L.length := List.length_pos_iff.2 hL0
        generalize w.toNat * hh.toNat = N at *
        generalize w.toNat = W at *
        refine G_loop (fun t e h => t ≤ N ∧ h = [] ∧ get e 2 = .pptr (!(nl != .bor)) [.int .i64 w, .int .i64 hh, lst nl xs] 0 ∧ get e 5 = lst snl L ∧ get e 6 = .int .i64 S ∧ get e 7 = .int .i64 S ∧ get e 16 = .int .i64 (t : Int)) (fun t => N - t) (a₀ := 0) ?_ ?_
        · simp
        rintro t e h ⟨ht, rfl, g2, g5, g6, g7, g16⟩
        simp (disch := first | omega | with_unfolding_all rfl) [g2, g5, g6, g7, g16, hm]
        by_cases hlt3 : t < N
        case neg =>
          have hlt3' : ¬ (t : Int) < N := by omega
          simp (disch := first | omega | with_unfolding_all rfl) [hlt3, hlt3', hk, g6, g7]
        have hlt3' : (t : Int) < N := by omega
        obtain ⟨o1, o2⟩ := hcov t hlt3
        have hov := hov t
        obtain ⟨s1, s2⟩ := hon1 t
        have hFl : (L.filter (ovp W t)).length ≤ 40 := Nat.le_trans (List.length_filter_le _ _) hLl
        have hkF : ∀ s ∈ L.filter (ovp W t), s.k = 0 ∨ s.k = 1 := fun s hs => hkk s (List.mem_filter.1 hs).1
        rw [o1, o2] at hov
        generalize L.filter (ovp W t) = F at *
        simp (disch := first | omega | with_unfolding_all rfl) [hlt3, hlt3', hLp, hf, hov, g2, g5, g6, g7, g16]
        refine G_loop (fun j e h => j ≤ F.length ∧ h = [] ∧ get e 2 = .pptr (!(nl != .bor)) [.int .i64 w, .int .i64 hh, lst nl xs] 0 ∧ get e 5 = lst snl L ∧ get e 6 = .int .i64 S ∧ get e 7 = .int .i64 S ∧ get e 16 = .int .i64 (t : Int) ∧
          get e 17 = lst .any F ∧ get e 18 = .int .i64 0 ∧ get e 19 = .int .i64 (sumK (F.take j)) ∧ get e 20 = .int .i64 (j : Int)) (fun j => F.length - j) (a₀ := 0) ?_ ?_
        · simp [sumK]
        rintro j e h ⟨hj, rfl, g2, g5, g6, g7, g16, g17, g18, g19, g20⟩
        simp (disch := first | omega | with_unfolding_all rfl) [g2, g5, g6, g7, g16, g17, g18, g19, g20]
        refine G_brd (fun hlt4 => ?_) (fun hlt4 => ?_)
        · obtain ⟨r0, r1⟩ := sumK_rg (F := F.take j) (fun s hs => hkF s (List.mem_of_mem_take hs))
          have hst := sumK_take hlt4
          have hkj := hkF F[j] (List.getElem_mem hlt4)
          have hjl : (F.take j).length ≤ 40 := by simp; omega
          rw [spn_get] at hkj
          simp (disch := first | omega | with_unfolding_all rfl) [hlt4, spn_get]
          exact ⟨j + 1, by omega, by omega, by rw [hst], by push_cast; rfl⟩
        · obtain rfl : j = F.length := by omega
          rw [List.take_length]
          have hs1 : ¬ 1 < sumK F := by omega
          simp (disch := first | omega | with_unfolding_all rfl) [hs1]
          exact ⟨t + 1, by omega, by omega, by push_cast; rfl⟩
end Go.Proofs.Ytpnhdcjfhlcgoaa
