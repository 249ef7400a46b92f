/- Stable sorting of numbers: merging in place, whatever the lengths. -/
import Derived.Test.YtmbknidfkddpfaaAirMerge
set_option linter.unusedVariables false
set_option linter.unusedSimpArgs false
set_option maxHeartbeats 4000000
namespace Go.Proofs.Ytmbknidfkddpfaa
open Go.Proofs.Ytmbknidfkddpfaa.PM

def at0 (Z : List Int) (k : Nat) : Int := Z.getD k 0
theorem at0_eq {Z : List Int} {k : Nat} (h : k < Z.length) : Z[k] = at0 Z k := by
  unfold at0; rw [List.getD_eq_getElem?_getD, List.getElem?_eq_getElem h]; rfl
theorem at0_left {P L R : List Int} {i : Nat} (hi : i < L.length) (k : Nat) (hk : k = P.length + i) : at0 (P ++ (L ++ R)) k = L[i] := by
  have hlt : k < (P ++ (L ++ R)).length := by simp only [List.length_append]; omega
  rw [← at0_eq hlt]; exact left_get hi k hk hlt
theorem at0_right {P L R S : List Int} {i : Nat} (hi : i < R.length) (k : Nat) (hk : k = P.length + L.length + i) : at0 (P ++ (L ++ (R ++ S))) k = R[i] := by
  have hlt : k < (P ++ (L ++ (R ++ S))).length := by simp only [List.length_append]; omega
  rw [← at0_eq hlt]; exact right_get hi k hk hlt
section
variable {g : Nat} {cs : List PV} {H : Hp} {b gen : Nat} {key : Int → Int} {dom : Int → Prop}
theorem key_le {L : List Int} (h : L.Pairwise (tl key)) {i j : Nat} (hj : j < L.length) (hij : i ≤ j) : key L[i] ≤ key L[j] := by
  rcases pair_le h hj hij with q | q
  · rw [q]; exact Int.le_refl _
  · unfold tl at q; omega
/-- Two sorted lists of which all of the first one stands ahead. -/
theorem sort_cat {L R : List Int} (hL : L.Pairwise (tl key)) (hR : R.Pairwise (tl key)) (h : ∀ x ∈ L, ∀ y ∈ R, tl key x y) : L ++ R = sortT key (L ++ R) :=
  sortT_uniq (List.Perm.refl _) (List.pairwise_append.2 ⟨hL, hR, h⟩)
theorem sort_nil {L R : List Int} (hL : L.Pairwise (tl key)) (hR : R.Pairwise (tl key)) (h : L = [] ∨ R = []) : L ++ R = sortT key (L ++ R) := by
  refine sort_cat hL hR fun x hx y hy => ?_
  rcases h with rfl | rfl
  · cases hx
  · cases hy
theorem merge3 (C : Cmp g cs key dom) (hb : b < H.length) (k : Nat) (ih : MergeOk g cs H b gen key dom k) (P L R S : List Int) (n : Nat) (a m c : Int) (hk : L.length + R.length ≤ k + 1) (hL1 : 1 < L.length) (hR1 : 1 < R.length) (hL : L.Pairwise (tl key)) (hR : R.Pairwise (tl key)) (hx : ∀ x ∈ L, ∀ y ∈ R, x < y) (hdL : ∀ x ∈ L, dom x) (hdR : ∀ x ∈ R, dom x)
    (hln : n = P.length + (L.length + (R.length + S.length))) (hn : n ≤ 1000) (ha : a = P.length) (hm : m = (P.length : Int) + L.length) (hc : c = (P.length : Int) + L.length + R.length) :
    RO tb 56 [mls Int b gen n, .int .i64 a, .int .i64 m, .int .i64 c, .clo (.func g) [] cs] (H.set b (bk 3 gen (P ++ (L ++ (R ++ S))))) = some (.tup [], H.set b (bk 3 gen (P ++ (sortT key (L ++ R) ++ S)))) := by
  have hfz := C.fz
  have hma : ¬ m - a = 1 := by omega
  have hcm : ¬ c - m = 1 := by omega
  generalize hmid : (a + c) / 2 = mid
  have hZdef : ∃ Z, Z = P ++ (L ++ (R ++ S)) := ⟨_, rfl⟩
  obtain ⟨Z, hZ⟩ := hZdef
  have hlz : Z.length = n := by rw [hZ]; simp only [List.length_append]; omega
  have hDL : ∀ (i : Nat) (q : Int) (hi : i < L.length), q = a + i → at0 Z q.toNat = L[i] := fun i q hi h => by rw [hZ]; exact at0_left hi _ (by omega)
  have hDR : ∀ (i : Nat) (q : Int) (hi : i < R.length), q = m + i → at0 Z q.toNat = R[i] := fun i q hi h => by rw [hZ]; exact at0_right hi _ (by omega)
  rw [← hZ]
  obtain ⟨s0, hs0⟩ : ∃ s0, s0 = if mid < m then mid + m - c else a := ⟨_, rfl⟩
  obtain ⟨r0, hr0⟩ : ∃ r0, r0 = if mid < m then mid else m := ⟨_, rfl⟩
  have hb0 : a ≤ s0 ∧ s0 ≤ r0 ∧ r0 ≤ m ∧ r0 ≤ mid ∧ mid + m - c ≤ s0 ∧ (r0 = m ∨ r0 = mid) ∧ (s0 = a ∨ s0 = mid + m - c) := by
    rw [hs0, hr0]; split <;> omega
  obtain ⟨b1, b2, b3, b4, b5, b6, b7⟩ := hb0
  refine RO_of_G (F := pf56) rfl rfl rfl ?_
  simp (disch := first | omega | with_unfolding_all rfl) [pf56, env0_eq, hma, hcm, hmid]
  refine G_join (fun e' h' => get e' 0 = mls Int b gen n ∧ get e' 1 = .int .i64 a ∧ get e' 2 = .int .i64 m ∧ get e' 3 = .int .i64 c ∧ get e' 4 = .clo (.func g) [] cs ∧ get e' 18 = .int .i64 mid ∧ get e' 19 = .int .i64 (mid + m) ∧ get e' 20 = .int .i64 s0 ∧ get e' 21 = .int .i64 r0 ∧ h' = H.set b (bk 3 gen Z)) (fun h1 => ?_) (fun h1 => ?_) ?_
  · have h1 : mid < m := by simpa using h1
    rw [if_pos h1] at hs0 hr0
    simp (disch := first | omega | with_unfolding_all rfl) [hs0, hr0]
  · have h1 : ¬ mid < m := by simpa using h1
    rw [if_neg h1] at hs0 hr0
    simp (disch := first | omega | with_unfolding_all rfl) [hs0, hr0]
  rintro e h ⟨g0, g1, g2, g3, g4, g5, g6, g7, g8, rfl⟩
  simp (disch := first | omega | with_unfolding_all rfl) [g0, g1, g2, g3, g4, g5, g6, g7, g8]
  refine G_loopK (α := Int × Int) (a₀ := (s0, r0)) [0, 1, 2, 3, 4, 18, 19, 22] (fun q e h => get e 20 = .int .i64 q.1 ∧ get e 21 = .int .i64 q.2 ∧ h = H.set b (bk 3 gen Z) ∧ s0 ≤ q.1 ∧ q.1 ≤ q.2 ∧ q.2 ≤ r0 ∧
    (q.1 = s0 ∨ ¬ key (at0 Z (mid + m - q.1).toNat) < key (at0 Z (q.1.toNat - 1))) ∧ (q.2 = r0 ∨ key (at0 Z (mid + m - 1 - q.2).toNat) < key (at0 Z q.2.toNat))) (fun q => (q.2 - q.1).toNat) ?_ ?_
  · exact ⟨by simp, by simp, rfl, Int.le_refl _, b2, Int.le_refl _, .inl rfl, .inl rfl⟩
  rintro ⟨s, r⟩ e h hk1 ⟨g9, g10, rfl, c1, c2, c3, c4, c5⟩
  simp only at g9 g10 c1 c2 c3 c4 c5
  simp at hk1
  simp (disch := first | omega | with_unfolding_all rfl) [hk1, g9, g10]
  refine G_brd (fun h1 => ?_) (fun h1 => ?_)
  · generalize hv : (s + r) / 2 = v
    have hp : mid + m - 1 - v = mid + m - 1 - v := rfl
    have hzi : ∀ k (h : k < Z.length), Z[k] = at0 Z k := fun k h => at0_eq h
    have hd1 : dom (at0 Z v.toNat) := by rw [hDL (v - a).toNat v (by omega) (by omega)]; exact hdL _ (List.getElem_mem _)
    have hd2 : dom (at0 Z (mid + m - 1 - v).toNat) := by rw [hDR (mid + m - 1 - v - m).toNat _ (by omega) (by omega)]; exact hdR _ (List.getElem_mem _)
    obtain ⟨w, hw1, hw2⟩ := C.call _ _ hd2 hd1
    simp (disch := first | omega | with_unfolding_all rfl) [h1, hv, hlz, hzi, hb, hfz, hw1]
    refine G_brd (fun h2 => ?_) (fun h2 => ?_)
    · have hkx := hw2.1 h2
      simp (disch := first | omega | with_unfolding_all rfl) [h2]
      exact ⟨s, v, by omega, rfl, rfl, c1, by omega, by omega, c4.imp id (fun q => by omega), .inr hkx⟩
    · have hkx : ¬ key (at0 Z (mid + m - 1 - v).toNat) < key (at0 Z v.toNat) := fun q => h2 (hw2.2 q)
      have q1 : (v + 1).toNat - 1 = v.toNat := by omega
      have q2 : mid + m - (v + 1) = mid + m - 1 - v := by omega
      simp (disch := first | omega | with_unfolding_all rfl) [h2]
      exact ⟨v + 1, r, by omega, rfl, rfl, by omega, by omega, by omega, .inr (by rw [q1, q2]; omega), c5⟩
  obtain rfl : s = r := by omega
  simp (disch := first | omega | with_unfolding_all rfl) [h1]
  generalize hf : mid + m - s = f
  obtain ⟨p, hp⟩ : ∃ p : Nat, s = a + p := ⟨(s - a).toNat, by omega⟩
  obtain ⟨q, hq⟩ : ∃ q : Nat, f = m + q := ⟨(f - m).toNat, by omega⟩
  have hpL : p ≤ L.length := by omega
  have hqR : q ≤ R.length := by omega
  have hlt : (L.take p).length = p := by rw [List.length_take]; omega
  have hld : (L.drop p).length = L.length - p := by rw [List.length_drop]
  have hrt : (R.take q).length = q := by rw [List.length_take]; omega
  have hrd : (R.drop q).length = R.length - q := by rw [List.length_drop]
  have hsL : (L.take p ++ L.drop p).Pairwise (tl key) := by rw [List.take_append_drop]; exact hL
  have hsR : (R.take q ++ R.drop q).Pairwise (tl key) := by rw [List.take_append_drop]; exact hR
  rw [List.pairwise_append] at hsL hsR
  have hX1 : ∀ x ∈ L.take p, ∀ y ∈ R.drop q, tl key x y := by
    intro x hx1 y hy1
    have hlt1 := hx x (List.mem_of_mem_take hx1) y (List.mem_of_mem_drop hy1)
    obtain ⟨i, hi, rfl⟩ := List.getElem_of_mem hx1
    obtain ⟨j, hj, rfl⟩ := List.getElem_of_mem hy1
    rw [hlt] at hi
    rw [hrd] at hj
    rw [List.getElem_take, List.getElem_drop] at hlt1 ⊢
    rcases c4 with q1 | q1
    · exfalso; rcases b7 with q2 | q2 <;> omega
    · rw [hf, hDR q f (by omega) (by omega), show s.toNat - 1 = (s - 1).toNat by omega, hDL (p - 1) (s - 1) (by omega) (by omega)] at q1
      have k1 := key_le hL (i := i) (j := p - 1) (by omega) (by omega)
      have k2 := key_le hR (i := q) (j := q + j) (by omega) (by omega)
      unfold tl; omega
  have hX2 : ∀ x ∈ R.take q, ∀ y ∈ L.drop p, tl key x y := by
    intro x hx1 y hy1
    obtain ⟨i, hi, rfl⟩ := List.getElem_of_mem hx1
    obtain ⟨j, hj, rfl⟩ := List.getElem_of_mem hy1
    rw [hrt] at hi
    rw [hld] at hj
    rw [List.getElem_take, List.getElem_drop]
    rcases c5 with q1 | q1
    · exfalso; rcases b6 with q2 | q2 <;> omega
    · rw [show mid + m - 1 - s = f - 1 by omega, hDR (q - 1) (f - 1) (by omega) (by omega), hDL p s (by omega) (by omega)] at q1
      have k1 := key_le hR (i := i) (j := q - 1) (by omega) (by omega)
      have k2 := key_le hL (i := p) (j := p + j) (by omega) (by omega)
      left; omega
  have hlm : (L.length : Int) = m - a := by omega
  have hZ2 : Z = (P ++ L.take p) ++ (L.drop p ++ (R.take q ++ (R.drop q ++ S))) := by
    rw [hZ, List.append_assoc, ← List.append_assoc (L.take p), List.take_append_drop, ← List.append_assoc (R.take q), List.take_append_drop]
  generalize hW1 : P ++ (L.take p ++ (R.take q ++ (L.drop p ++ (R.drop q ++ S)))) = W1
  generalize hM1 : sortT key (L.take p ++ R.take q) = M1
  generalize hM2 : sortT key (L.drop p ++ R.drop q) = M2
  have hnd1 : (L.take p ++ R.take q).Nodup := by
    rw [List.nodup_append]
    refine ⟨hsL.1.imp (fun h e => by subst e; unfold tl at h; omega), hsR.1.imp (fun h e => by subst e; unfold tl at h; omega), fun x h1 y h2 e => ?_⟩
    have := hx x (List.mem_of_mem_take h1) y (List.mem_of_mem_take h2)
    omega
  have hnd2 : (L.drop p ++ R.drop q).Nodup := by
    rw [List.nodup_append]
    refine ⟨hsL.2.1.imp (fun h e => by subst e; unfold tl at h; omega), hsR.2.1.imp (fun h e => by subst e; unfold tl at h; omega), fun x h1 y h2 e => ?_⟩
    have := hx x (List.mem_of_mem_drop h1) y (List.mem_of_mem_drop h2)
    omega
  have hp1 : M1.Perm (L.take p ++ R.take q) := by rw [← hM1]; exact sortT_perm _ _
  have hp2 : M2.Perm (L.drop p ++ R.drop q) := by rw [← hM2]; exact sortT_perm _ _
  have hl1 : M1.length = p + q := by rw [hp1.length_eq, List.length_append]; omega
  have hl2 : M2.length = L.length - p + (R.length - q) := by rw [hp2.length_eq, List.length_append]; omega
  have hfin : P ++ (M1 ++ (M2 ++ S)) = P ++ (sortT key (L ++ R) ++ S) := by
    rw [← List.append_assoc M1]
    congr 2
    refine sortT_uniq ?_ ?_
    · refine (hp1.append hp2).trans ?_
      have e1 : ((L.take p ++ R.take q) ++ (L.drop p ++ R.drop q)).Perm ((L.take p ++ L.drop p) ++ (R.take q ++ R.drop q)) := by
        rw [List.append_assoc, List.append_assoc]
        refine List.Perm.append_left _ ?_
        rw [← List.append_assoc, ← List.append_assoc]
        exact List.Perm.append_right _ List.perm_append_comm
      rw [List.take_append_drop, List.take_append_drop] at e1
      exact e1
    · rw [List.pairwise_append]
      refine ⟨by rw [← hM1]; exact sortT_pair _ _ hnd1, by rw [← hM2]; exact sortT_pair _ _ hnd2, fun x h1 y h2 => ?_⟩
      have h1 := List.mem_append.1 (hp1.mem_iff.1 h1)
      have h2 := List.mem_append.1 (hp2.mem_iff.1 h2)
      rcases h1 with h1 | h1 <;> rcases h2 with h2 | h2
      · exact hsL.2.2 x h1 y h2
      · exact hX1 x h1 y h2
      · exact hX2 x h1 y h2
      · exact hsR.2.2 x h1 y h2
  refine G_splice2 (fun e' h' => get e' 0 = mls Int b gen n ∧ get e' 1 = .int .i64 a ∧ get e' 3 = .int .i64 c ∧ get e' 4 = .clo (.func g) [] cs ∧ get e' 18 = .int .i64 mid ∧ get e' 20 = .int .i64 s ∧ get e' 24 = .int .i64 f ∧ h' = H.set b (bk 3 gen W1)) ?_ ?_
  · by_cases d1 : s < m
    · simp (disch := first | omega | with_unfolding_all rfl) [d1]
      by_cases d2 : m < f
      · have hrot := rotate_ok (gen := gen) hb (.clo (.func g) [] cs) (P ++ L.take p) (L.drop p) (R.take q) (R.drop q ++ S) (by intro h; rw [h] at hld; simp at hld; omega) (by intro h; rw [h] at hrt; simp at hrt; omega) n s m f (by simp only [List.length_append]; omega) hn (by simp only [List.length_append]; omega) (by simp only [List.length_append]; omega) (by simp only [List.length_append]; omega)
        rw [← hZ2, List.append_assoc, hW1] at hrot
        simp (disch := first | omega | with_unfolding_all rfl) [d2, hrot]
      · have hq0 : q = 0 := by omega
        have hw : Z = W1 := by rw [hZ2, ← hW1, hq0]; simp
        simp (disch := first | omega | with_unfolding_all rfl) [d2, hw]
    · have hp0 : p = L.length := by omega
      have hw : Z = W1 := by rw [hZ2, ← hW1, hp0]; simp
      simp (disch := first | omega | with_unfolding_all rfl) [d1, hw]
  rintro e h ⟨g0, g1, g3, g4, g5, g7, g9, rfl⟩
  simp (disch := first | omega | with_unfolding_all rfl) [g0, g1, g3, g4, g5, g7, g9]
  refine G_splice2 (fun e' h' => get e' 0 = mls Int b gen n ∧ get e' 3 = .int .i64 c ∧ get e' 4 = .clo (.func g) [] cs ∧ get e' 18 = .int .i64 mid ∧ get e' 24 = .int .i64 f ∧ h' = H.set b (bk 3 gen (P ++ (M1 ++ (L.drop p ++ (R.drop q ++ S)))))) ?_ ?_
  · by_cases d1 : a < s
    · simp (disch := first | omega | with_unfolding_all rfl) [d1, g0, g1, g3, g4, g5, g7, g9]
      by_cases d2 : s < mid
      · have hih := ih P (L.take p) (R.take q) (L.drop p ++ (R.drop q ++ S)) n a s mid (by omega) (by intro h; rw [h] at hlt; simp at hlt; omega) (by intro h; rw [h] at hrt; simp at hrt; omega) hsL.1 hsR.1 (fun x h1 y h2 => hx x (List.mem_of_mem_take h1) y (List.mem_of_mem_take h2)) (fun x h => hdL x (List.mem_of_mem_take h)) (fun x h => hdR x (List.mem_of_mem_take h))
          (by simp only [List.length_append]; omega) hn ha (by omega) (by omega)
        rw [hW1, hM1] at hih
        simp (disch := first | omega | with_unfolding_all rfl) [d2, hih, g0, g1, g3, g4, g5, g7, g9]
      · have hq0 : q = 0 := by omega
        have hw : W1 = P ++ (M1 ++ (L.drop p ++ (R.drop q ++ S))) := by
          rw [← hW1, ← hM1, ← sort_nil hsL.1 hsR.1 (.inr (by rw [hq0]; rfl)), List.append_assoc]
        simp (disch := first | omega | with_unfolding_all rfl) [d2, hw, g0, g1, g3, g4, g5, g7, g9]
    · have hp0 : p = 0 := by omega
      have hw : W1 = P ++ (M1 ++ (L.drop p ++ (R.drop q ++ S))) := by
        rw [← hW1, ← hM1, ← sort_nil hsL.1 hsR.1 (.inl (by rw [hp0]; rfl)), List.append_assoc]
      simp (disch := first | omega | with_unfolding_all rfl) [d1, hw, g0, g1, g3, g4, g5, g7, g9]
  rintro e h ⟨g0, g3, g4, g5, g9, rfl⟩
  simp (disch := first | omega | with_unfolding_all rfl) [g0, g3, g4, g5, g9]
  by_cases d1 : mid < f
  · simp (disch := first | omega | with_unfolding_all rfl) [d1, g0, g3, g4, g5, g9]
    by_cases d2 : f < c
    · have hih := ih (P ++ M1) (L.drop p) (R.drop q) S n mid f c (by omega) (by intro h; rw [h] at hld; simp at hld; omega) (by intro h; rw [h] at hrd; simp at hrd; omega) hsL.2.1 hsR.2.1 (fun x h1 y h2 => hx x (List.mem_of_mem_drop h1) y (List.mem_of_mem_drop h2)) (fun x h => hdL x (List.mem_of_mem_drop h)) (fun x h => hdR x (List.mem_of_mem_drop h))
        (by simp only [List.length_append]; omega) hn (by simp only [List.length_append]; omega) (by simp only [List.length_append]; omega) (by simp only [List.length_append]; omega)
      rw [List.append_assoc, List.append_assoc, hM2, hfin] at hih
      simp (disch := first | omega | with_unfolding_all rfl) [d2, hih, g0, g3, g4, g5, g9]
    · have hw : P ++ (M1 ++ (L.drop p ++ (R.drop q ++ S))) = P ++ (sortT key (L ++ R) ++ S) := by
        rw [← hfin, ← hM2, ← sort_nil hsL.2.1 hsR.2.1 (.inr (List.drop_of_length_le (by omega))), List.append_assoc]
      simp (disch := first | omega | with_unfolding_all rfl) [d2, hw, g0, g3, g4, g5, g9]
  · have hw : P ++ (M1 ++ (L.drop p ++ (R.drop q ++ S))) = P ++ (sortT key (L ++ R) ++ S) := by
      rw [← hfin, ← hM2, ← sort_nil hsL.2.1 hsR.2.1 (.inl (List.drop_of_length_le (by omega))), List.append_assoc]
    simp (disch := first | omega | with_unfolding_all rfl) [d1, hw, g0, g3, g4, g5, g9]
theorem merge_ok (C : Cmp g cs key dom) (hb : b < H.length) : ∀ k, MergeOk g cs H b gen key dom k := by
  intro k
  induction k with
  | zero =>
    intro P L R S n a m c hk hL0
    have := List.length_pos_iff.2 hL0
    omega
  | succ k ih =>
    intro P L R S n a m c hk hL0 hR0 hL hR hx hdL hdR hln hn ha hm hc
    have h1 := List.length_pos_iff.2 hL0
    have h2 := List.length_pos_iff.2 hR0
    by_cases hl : L.length = 1
    · obtain ⟨x, rfl⟩ := List.length_eq_one_iff.1 hl
      exact merge1 C hb P R S x n a m c hR0 hR (fun y hy => hx x (by simp) y hy) (hdL x (by simp)) hdR (by simpa using hln) hn ha (by simpa using hm) (by simpa using hc)
    by_cases hr : R.length = 1
    · obtain ⟨y, rfl⟩ := List.length_eq_one_iff.1 hr
      exact merge2 C hb P L S y n a m c (by omega) hL (fun x h => hx x h y (by simp)) (hdR y (by simp)) hdL (by simpa using hln) hn ha hm (by simpa using hc)
    exact merge3 C hb k ih P L R S n a m c hk (by omega) (by omega) hL hR hx hdL hdR hln hn ha hm hc
end
end Go.Proofs.Ytmbknidfkddpfaa
