/- Spans: the held tiles: the law. -/
import Derived.Test.YtpnhdcjfhlcgoaaSpanHoldR
set_option linter.unusedVariables false
set_option linter.unusedSimpArgs false
set_option maxHeartbeats 4000000
set_option maxRecDepth 20000
namespace Go.Proofs.Ytpnhdcjfhlcgoaa
open Go.Proofs.Ytpnhdcjfhlcgoaa.PM

theorem eq_of_lt : ∀ {l1 l2 : List Int}, l1.Pairwise (· < ·) → l2.Pairwise (· < ·) → (∀ x, x ∈ l1 ↔ x ∈ l2) → l1 = l2
  | [], [], _, _, _ => rfl
  | [], y :: ys, _, _, h => by have := (h y).2 (by simp); simp at this
  | x :: xs, [], _, _, h => by have := (h x).1 (by simp); simp at this
  | x :: xs, y :: ys, h1, h2, h => by
    rw [List.pairwise_cons] at h1 h2
    have hxy : x = y := by
      have a := (h x).1 (by simp)
      have b := (h y).2 (by simp)
      simp only [List.mem_cons] at a b
      rcases a with a | a
      · exact a
      · rcases b with b | b
        · exact b.symm
        · have := h1.1 y b
          have := h2.1 x a
          omega
    subst hxy
    rw [eq_of_lt h1.2 h2.2 (fun z => ?_)]
    constructor
    · intro hz
      have := (h z).1 (by simp [hz])
      simp only [List.mem_cons] at this
      rcases this with rfl | q
      · have := h1.1 z hz; omega
      · exact q
    · intro hz
      have := (h z).2 (by simp [hz])
      simp only [List.mem_cons] at this
      rcases this with rfl | q
      · have := h2.1 z hz; omega
      · exact q

theorem cmp_mem (zs : List Int) (x : Int) : x ∈ Lib.compact zs ↔ x ∈ zs := by
  unfold Lib.compact Lib.compactUpTo
  simp only [List.mem_map, List.mem_filter, List.mem_range]
  constructor
  · rintro ⟨j, ⟨hj, _⟩, rfl⟩
    simp [hj]
  · intro hx
    obtain ⟨i, hi, rfl⟩ := List.getElem_of_mem hx
    have key : ∀ n i, i ≤ n → (hi : i < zs.length) → ∃ j, (j < zs.length ∧ Lib.keeps zs.toArray j = true) ∧ zs.toArray[j]! = zs[i] := by
      intro n
      induction n with
      | zero =>
        intro i hin hi
        obtain rfl : i = 0 := by omega
        exact ⟨0, ⟨hi, Lib.keeps_lt_one _ 0 (by omega)⟩, by simp [hi]⟩
      | succ n ih =>
        intro i hin hi
        cases hk : Lib.keeps zs.toArray i
        · have h0 : i ≠ 0 := by
            rintro rfl
            rw [Lib.keeps_lt_one _ 0 (by omega)] at hk; cases hk
          have heq : zs.toArray[i]! = zs.toArray[i - 1]! := by
            apply Classical.byContradiction
            intro hne
            rw [Lib.keeps_pos hne] at hk; cases hk
          obtain ⟨j, h1, h2⟩ := ih (i - 1) (by omega) (by omega)
          refine ⟨j, h1, h2.trans ?_⟩
          simpa [hi, show i - 1 < zs.length by omega] using heq.symm
        · exact ⟨i, ⟨hi, hk⟩, by simp [hi]⟩
    exact key i i (Nat.le_refl _) hi
theorem cmp_lt {zs : List Int} (h : zs.Pairwise (· ≤ ·)) : (Lib.compact zs).Pairwise (· < ·) := by
  unfold Lib.compact Lib.compactUpTo
  rw [List.pairwise_map]
  have hr : (List.range zs.length).Pairwise (· < ·) := List.pairwise_lt_range
  refine (hr.filter _).imp_of_mem ?_
  intro i j hi hj hij
  simp only [List.mem_filter, List.mem_range] at hi hj
  have hne : zs.toArray[j]! ≠ zs.toArray[j - 1]! := by
    intro he
    rw [Lib.keeps_neg (by omega) he] at hj
    cases hj.2
  rw [List.pairwise_iff_getElem] at h
  have h1 := h (j - 1) j (by omega) hj.1 (by omega)
  have h2 : zs[i]'hi.1 ≤ zs[j - 1]'(by omega) := by
    rcases Nat.lt_or_ge i (j - 1) with q | q
    · exact h i (j - 1) hi.1 (by omega) q
    · have : i = j - 1 := by omega
      subst this
      exact Int.le_refl _
  simp only [List.getElem!_toArray, List.getElem!_eq_getElem?_getD] at hne ⊢
  simp [hi.1, hj.1, show j - 1 < zs.length by omega] at hne ⊢
  omega
theorem srt_le (zs : List Int) : (srt zs).Pairwise (· ≤ ·) := by
  have := List.pairwise_mergeSort (le := fun x y : Int => decide (x ≤ y)) (by intro a b c; simp; omega) (by intro a b; simp; omega) zs
  exact this.imp (by simp)
theorem srt_mem (zs : List Int) (x : Int) : x ∈ srt zs ↔ x ∈ zs := List.mem_mergeSort

theorem inL_iff (ts : List Int) (x : Int) : inL ts x = true ↔ x ∈ ts := by
  unfold inL
  rw [List.any_eq_true]
  constructor
  · rintro ⟨y, hy, h⟩; have : y = x := by simpa using h
    subst this; exact hy
  · intro h; exact ⟨x, h, by simp⟩
theorem held_eq {l : Ld} {ss : List Sp} (h0 : lstErr l ss = 0) : Lib.compact (srt (hld l.w.toNat ss)) = hldR l.w.toNat ss (l.w.toNat * l.h.toNat) := by
  obtain ⟨h01, h02⟩ := lst_0 h0
  have g := good_nat h01
  have hse : ∀ s, errS l s = sErr l l.w.toNat l.h.toNat s.k s.a s.b s.u := fun _ => rfl
  have h4 := g.w4
  generalize l.w.toNat = W at *
  generalize l.h.toNat = H at *
  refine eq_of_lt (cmp_lt (srt_le _)) ?_ ?_
  · unfold hldR
    rw [List.pairwise_map]
    have hr : (List.range (W * H)).Pairwise (· < ·) := List.pairwise_lt_range
    exact (hr.filter _).imp (by intro a b h; omega)
  · intro x
    rw [cmp_mem, srt_mem]
    unfold hld hldR
    simp only [List.mem_flatMap, List.mem_map, List.mem_filter, List.mem_range]
    constructor
    · rintro ⟨s, hs, hx⟩
      obtain ⟨i, hi, rfl⟩ := List.getElem_of_mem hs
      rw [spn_get hi] at hx
      have he := h02 i hi
      rw [hse] at he
      obtain ⟨hk, A, B, hA, hB, hab, hBN, hd, _, hn⟩ := sErr_0 he
      unfold hld1 at hx
      rw [hA, hB] at hx
      simp only [List.mem_append, List.mem_cons, List.not_mem_nil, or_false] at hx
      have put : ∀ t : Nat, t < W * H → hS W (spn ss i) t = true → ∃ a, (a < W * H ∧ hldB W ss a = true) ∧ (a : Int) = (t : Int) := fun t ht hh => ⟨t, ⟨ht, anyN_t (Nat.zero_le i) hi hh⟩, rfl⟩
      rcases hx with (rfl | rfl) | hx
      · exact put A (by omega) (by unfold hS; rw [hA]; simp)
      · exact put B (by omega) (by unfold hS; rw [hB]; simp)
      · split at hx
        · cases hx
        · rename_i hk1
          obtain ⟨m, hm, hmx⟩ := List.getElem_of_mem hx
          obtain ⟨t, ht, hte⟩ := btw_rg (N := W * H) (by omega) (by omega) (by omega) hd (by omega) hm
          rw [hmx] at hte
          subst hte
          refine put t ht ?_
          unfold hS
          rw [hA, hB, (inL_iff _ _).2 hx]
          have : (spn ss i).k = 0 := by omega
          simp [this]
    · rintro ⟨t, ⟨ht, hh⟩, rfl⟩
      obtain ⟨i, -, hi, hh⟩ := anyN_of hh
      refine ⟨ss[i], List.getElem_mem hi, ?_⟩
      rw [spn_get hi]
      unfold hS at hh
      unfold hld1
      simp only [Bool.or_eq_true, Bool.and_eq_true, decide_eq_true_eq] at hh
      simp only [List.mem_append, List.mem_cons, List.not_mem_nil, or_false]
      rcases hh with (h | h) | ⟨h1, h2⟩
      · exact .inl (.inl h.symm)
      · exact .inl (.inr h.symm)
      · rw [if_neg (by omega)]
        exact .inr ((inL_iff _ _).1 h2)
theorem heV_eq {l : Ld} {ss : List Sp} : heV l ss = heR l ss := by
  unfold heV heR
  split
  · rename_i h; rw [held_eq h]
  · rfl

theorem tb2_ok : TOk Try.prog tb2 := ⟨List.forall_mem_cons.2 ⟨pf25_ok, List.forall_mem_cons.2 ⟨pf47_ok, List.forall_mem_cons.2 ⟨pf26_ok, List.forall_mem_cons.2 ⟨pf27_ok, List.forall_mem_cons.2 ⟨pf8_ok, fun _ h => (List.not_mem_nil h).elim⟩⟩⟩⟩⟩,
  fun f args r h => R_ok tb_ok h, fun f args H r H' h => by
    change (match RO tb f args H with | some r => some r | none => natO2 f args H) = _ at h
    split at h
    · rename_i q hq
      simp only [Option.some.injEq] at h
      subst h
      exact RO_ok tb_ok hq
    · exact natO2_ok f args H r H' h, fun _ _ _ h => (by cases h), sq64_ok, (by kernel_rfl)⟩
theorem sameI_nil : R tb2 27 [.list .nil 1 [], .list .nil 1 []] = some (.bool true) := by
  change R (tbN natO2) 27 _ = _
  refine R_of_G (F := pf27) (tbN_nat rfl) rfl rfl ?_
  simp (disch := first | omega | with_unfolding_all rfl) [pf27, env0_eq]
  rw [G_unroll]
  simp (disch := first | omega | with_unfolding_all rfl) []
theorem sameI_ok {L : List Int} (hs : L.length ≤ 100000) : R tb2 27 [lst .any L, lst .any L] = some (.bool true) := by
  change R (tbN natO2) 27 _ = _
  refine R_of_G (F := pf27) (tbN_nat rfl) rfl rfl ?_
  simp (disch := first | omega | with_unfolding_all rfl) [pf27, env0_eq]
  refine G_loop (fun i e h => i ≤ L.length ∧ h = [] ∧ get e 0 = lst .any L ∧ get e 1 = lst .any L ∧ get e 5 = .int .i64 (i : Int)) (fun i => L.length - i) (a₀ := 0) ?_ ?_
  · simp
  rintro i e h ⟨hi, rfl, g0, g1, g5⟩
  simp (disch := first | omega | with_unfolding_all rfl) [g0, g1, g5]
  refine G_brd (fun hlt => ?_) (fun hlt => ?_)
  · simp (disch := first | omega | with_unfolding_all rfl) [hlt, zz_get]
    exact ⟨i + 1, by omega, by omega, by push_cast; rfl⟩
  · simp (disch := first | omega | with_unfolding_all rfl) [hlt]

theorem holds_ok {l : Ld} (hf : l.nl ≠ .bor) (hb : l.xs.length ≤ maxLen) {snl : Nl} {ss : List Sp} (hs : ss.length ≤ maxLen) : R tb2 8 [vL l, lst snl ss] = some (.bool true) := by
  have h0 := R2 (n2 := natO2) (far_ok hf hb (snl := snl) hs)
  have hkn := R2 (n2 := natO2) known_ok
  have h1 := fun (h : l.xs.length ≤ 3000) (h' : ss.length ≤ 300) => held_ok hf h (snl := snl) h'
  have h2 := fun (h : l.xs.length ≤ 3000) (h' : ss.length ≤ 300) => heldR_ok hf h (snl := snl) h'
  have h3 : heR l ss = .list .nil 1 [] ∨ ∃ L : List Int, L.length ≤ 100000 ∧ heR l ss = lst .any L := by
    unfold heR
    split
    · rename_i h
      refine .inr ⟨_, ?_, rfl⟩
      have := wh_le (good_nat (lst_0 h).1)
      unfold hldR
      rw [List.length_map]
      have h2 := List.length_filter_le (hldB l.w.toNat ss) (List.range (l.w.toNat * l.h.toNat))
      rw [List.length_range] at h2
      omega
    · exact .inl rfl
  rw [heV_eq] at h1
  generalize lstErr l ss = re at *
  generalize heR l ss = rv at *
  obtain ⟨w, hh, nl, xs⟩ := l
  dsimp only at hf hb h0 h1 h2
  change ∀ _ _, R (tbN natO2) 26 _ = _ at h1
  change ∀ _ _, R (tbN natO2) 25 _ = _ at h2
  change R (tbN natO2) 8 _ = _
  refine R_of_G (F := pf8) (tbN_nat rfl) rfl rfl ?_
  by_cases c : 3000 < xs.length ∨ 300 < ss.length
  · have hc : (decide (3000 < xs.length) || decide (300 < ss.length)) = true := by simpa using c
    rw [hc] at h0
    simp (disch := first | omega | with_unfolding_all rfl) [pf8, env0_eq, hf, h0, hkn]
  · have hc : (decide (3000 < xs.length) || decide (300 < ss.length)) = false := by simp; omega
    rw [hc] at h0
    have h1 := h1 (by omega) (by omega)
    have h2 := h2 (by omega) (by omega)
    rcases h3 with rfl | ⟨L, hL, rfl⟩
    · have hsm := sameI_nil
      change R (tbN natO2) 27 _ = _ at hsm
      simp (disch := first | omega | with_unfolding_all rfl) [pf8, env0_eq, hf, h0, hkn, h1, h2, hsm]
    · have hsm := sameI_ok hL
      change R (tbN natO2) 27 _ = _ at hsm
      simp (disch := first | omega | with_unfolding_all rfl) [pf8, env0_eq, hf, h0, hkn, h1, h2, hsm]
end Go.Proofs.Ytpnhdcjfhlcgoaa
