/- Stable sorting of numbers: merging in place. -/
import Derived.Test.YtmbknidfkddpfaaPmTwenty
import Derived.Test.YtmbknidfkddpfaaAirSort
set_option linter.unusedVariables false
set_option linter.unusedSimpArgs false
set_option maxHeartbeats 2000000
namespace Go.Proofs.Ytmbknidfkddpfaa
open Go.Proofs.Ytmbknidfkddpfaa.PM

@[simp] theorem wrap_u64 {a : Int} (h1 : 0 ≤ a) (h2 : a ≤ 9223372036854775807) : IntKind.wrap .u64 a = a := by
  simp only [IntKind.wrap, IntKind.bits, IntKind.signed]
  simp
  omega
@[simp] theorem fdiv_half (a : Int) : a.fdiv (2 ^ min 1 (IntKind.bits .u64)) = a / 2 := by
  have h : (2 : Int) ^ min 1 (IntKind.bits .u64) = 2 := rfl
  rw [h, Int.fdiv_eq_ediv_of_nonneg _ (by decide)]
theorem left_get {P L R : List Int} {i : Nat} (hi : i < L.length) (k : Nat) (hk : k = P.length + i) (h : k < (P ++ (L ++ R)).length) : (P ++ (L ++ R))[k] = L[i] := by
  subst hk
  rw [List.getElem_append_right (by omega), List.getElem_append_left (by omega)]
  congr 1; omega
theorem right_get {P L R S : List Int} {i : Nat} (hi : i < R.length) (k : Nat) (hk : k = P.length + L.length + i) (h : k < (P ++ (L ++ (R ++ S))).length) : (P ++ (L ++ (R ++ S)))[k] = R[i] := by
  subst hk
  rw [List.getElem_append_right (by omega), List.getElem_append_right (by omega), List.getElem_append_left (by omega)]
  congr 1; omega
section
variable {g : Nat} {cs : List PV} {H : Hp} {b gen : Nat} {key : Int → Int} {dom : Int → Prop}
theorem pair_le {L : List Int} (h : L.Pairwise (tl key)) {i j : Nat} (hj : j < L.length) (hij : i ≤ j) : L[i] = L[j] ∨ tl key L[i] L[j] := by
  rcases Nat.lt_or_ge i j with h1 | h1
  · exact .inr (List.pairwise_iff_getElem.1 h i j (by omega) hj h1)
  · obtain rfl : i = j := by omega
    exact .inl rfl
def MergeOk (g : Nat) (cs : List PV) (H : Hp) (b gen : Nat) (key : Int → Int) (dom : Int → Prop) (k : Nat) : Prop :=
  ∀ (P L R S : List Int) (n : Nat) (a m c : Int), L.length + R.length ≤ k → L ≠ [] → R ≠ [] → L.Pairwise (tl key) → R.Pairwise (tl key) → (∀ x ∈ L, ∀ y ∈ R, x < y) → (∀ x ∈ L, dom x) → (∀ x ∈ R, dom x) →
    n = P.length + (L.length + (R.length + S.length)) → n ≤ 1000 → a = P.length → m = (P.length : Int) + L.length → c = (P.length : Int) + L.length + R.length →
    RO tb 56 [mls Int b gen n, .int .i64 a, .int .i64 m, .int .i64 c, .clo (.func g) [] cs] (H.set b (bk 3 gen (P ++ (L ++ (R ++ S))))) = some (.tup [], H.set b (bk 3 gen (P ++ (sortT key (L ++ R) ++ S))))
theorem merge1 (C : Cmp g cs key dom) (hb : b < H.length) (P R S : List Int) (x : Int) (n : Nat) (a m c : Int) (hR0 : R ≠ []) (hR : R.Pairwise (tl key)) (hx : ∀ y ∈ R, x < y) (hdx : dom x) (hdR : ∀ y ∈ R, dom y)
    (hln : n = P.length + (1 + (R.length + S.length))) (hn : n ≤ 1000) (ha : a = P.length) (hm : m = (P.length : Int) + 1) (hc : c = (P.length : Int) + 1 + R.length) :
    RO tb 56 [mls Int b gen n, .int .i64 a, .int .i64 m, .int .i64 c, .clo (.func g) [] cs] (H.set b (bk 3 gen (P ++ (x :: (R ++ S))))) = some (.tup [], H.set b (bk 3 gen (P ++ (sortT key (x :: R) ++ S)))) := by
  have hfz := C.fz
  have hR1 : 0 < R.length := List.length_pos_iff.2 hR0
  have hma : m - a = 1 := by omega
  refine RO_of_G (F := pf56) rfl rfl rfl ?_
  simp (disch := first | omega | with_unfolding_all rfl) [pf56, env0_eq, hma]
  refine G_loopK (α := Nat × Nat) (a₀ := (0, R.length)) [0, 1, 4] (fun q e h => get e 10 = .int .i64 (m + q.1) ∧ get e 11 = .int .i64 (m + q.2) ∧ h = H.set b (bk 3 gen (P ++ (x :: (R ++ S)))) ∧ q.1 ≤ q.2 ∧ q.2 ≤ R.length ∧
    (∀ t (ht : t < R.length), t + 1 = q.1 → key R[t] < key x) ∧ (∀ (ht : q.2 < R.length), ¬ key R[q.2] < key x)) (fun q => q.2 - q.1) ?_ ?_
  · refine ⟨by simp, by simp; omega, rfl, Nat.zero_le _, Nat.le_refl _, fun t ht h => by omega, fun h => absurd h (Nat.lt_irrefl _)⟩
  rintro ⟨i, j⟩ e h hk ⟨g1, g2, rfl, hij, hj, hlo, hhi⟩
  simp only at g1 g2 hij hj hlo hhi
  simp at hk
  simp (disch := first | omega | with_unfolding_all rfl) [hk, g1, g2]
  refine G_brd (fun h1 => ?_) (fun h1 => ?_)
  · generalize hh : (i + j) / 2 = v
    have hvR : v < R.length := by omega
    have hhalf : (m + (i : Int) + (m + (j : Int))) / 2 = m + (v : Int) := by omega
    have ht1 : (m + (v : Int)).toNat = P.length + 1 + v := by omega
    have ht2 : a.toNat = P.length := by omega
    generalize hZ : P ++ x :: (R ++ S) = Z
    have hlz : Z.length = n := by rw [← hZ]; simp only [List.length_append, List.length_cons]; omega
    have e1 : ∀ h, Z[P.length + 1 + v]'h = R[v] := fun h => by subst hZ; exact right_get (L := [x]) hvR _ (by simp) h
    have e2 : ∀ h, Z[P.length]'h = x := fun h => mid_get (A := P) (B := R ++ S) hZ.symm rfl h
    obtain ⟨w, hw1, hw2⟩ := C.call R[v] x (hdR _ (List.getElem_mem hvR)) hdx
    simp (disch := first | omega | with_unfolding_all rfl) [h1, hhalf, ht1, ht2, hlz, e1, e2, hb, hfz, hw1]
    refine G_brd (fun h2 => ?_) (fun h2 => ?_)
    · have hkx := hw2.1 h2
      simp (disch := first | omega | with_unfolding_all rfl) [h2]
      refine ⟨v + 1, j, by omega, by omega, rfl, by omega, hj, fun t ht q => ?_, fun ht => ?_⟩
      · obtain rfl : t = v := by omega
        exact hkx
      · have := hhi ht; omega
    · have hkx : ¬ key R[v] < key x := fun q => h2 (hw2.2 q)
      simp (disch := first | omega | with_unfolding_all rfl) [h2]
      exact ⟨i, v, by omega, rfl, rfl, by omega, by omega, hlo, fun _ => by omega⟩
  · obtain rfl : i = j := by omega
    simp (disch := first | omega | with_unfolding_all rfl) [h1]
    refine G_scanK [0, 10] (fun t e h => get e 13 = .int .i64 (a + t) ∧ h = H.set b (bk 3 gen (P ++ (R.take t ++ x :: (R.drop t ++ S))))) (fun _ => false) i 0 ?_ (Nat.zero_le _) ?_
    · simp
    rintro t e h - ht - hk2 ⟨g3, rfl⟩
    simp at hk2
    simp (disch := first | omega | with_unfolding_all rfl) [hk2, g3]
    by_cases h3 : t < i
    · have h3' : a + (t : Int) < m + (i : Int) - 1 := by omega
      have htR : t < R.length := by omega
      have hltt : (R.take t).length = t := by rw [List.length_take]; omega
      have hdr : R.drop t = R[t] :: R.drop (t + 1) := List.drop_eq_getElem_cons htR
      have hst : R.take (t + 1) = R.take t ++ [R[t]] := (take_snoc htR).symm
      have hldr : (R.drop (t + 1)).length = R.length - (t + 1) := by rw [List.length_drop]
      rw [hdr]
      simp only [List.cons_append]
      generalize hZ : P ++ (R.take t ++ x :: R[t] :: (R.drop (t + 1) ++ S)) = Z
      have hlz : Z.length = n := by rw [← hZ]; simp only [List.length_append, List.length_cons]; omega
      have ht1 : (a + (t : Int)).toNat = P.length + t := by omega
      have ht2 : (a + (t : Int) + 1).toNat = P.length + t + 1 := by omega
      have e1 : ∀ h, Z[P.length + t]'h = x := fun h => mid_get (A := P ++ R.take t) (B := R[t] :: (R.drop (t + 1) ++ S)) (by rw [← hZ]; simp only [List.append_assoc]) (by simp only [List.length_append]; omega) h
      have e2 : ∀ h, Z[P.length + t + 1]'h = R[t] := fun h => mid_get (A := P ++ (R.take t ++ [x])) (B := R.drop (t + 1) ++ S) (by rw [← hZ]; simp only [List.append_assoc, List.cons_append, List.nil_append]) (by simp only [List.length_append, List.length_cons, List.length_nil]; omega) h
      have e3 : (Z.set (P.length + t) R[t]).set (P.length + t + 1) x = P ++ (R.take (t + 1) ++ x :: (R.drop (t + 1) ++ S)) := by
        rw [mid_set (Z := Z) (A := P ++ R.take t) (x := x) (B := R[t] :: (R.drop (t + 1) ++ S)) _ (by rw [← hZ]; simp only [List.append_assoc]) (by simp only [List.length_append]; omega)]
        rw [mid_set (A := P ++ (R.take t ++ [R[t]])) (x := R[t]) (B := R.drop (t + 1) ++ S) _ (by simp only [List.append_assoc, List.cons_append, List.nil_append]) (by simp only [List.length_append, List.length_cons, List.length_nil]; omega)]
        rw [hst]; simp only [List.append_assoc]
      have hls : (Z.set (P.length + t) R[t]).length = n := by rw [List.length_set]; exact hlz
      simp (disch := first | omega | with_unfolding_all rfl) [h3', hlz, hls, ht1, ht2, e1, e2, e3, hb, hk2, g3, h3]
      omega
    · obtain rfl : t = i := by omega
      have h3' : ¬ a + (t : Int) < m + (t : Int) - 1 := by omega
      have hu : R.take t ++ x :: R.drop t = sortT key (x :: R) := by
        refine sortT_uniq ?_ ?_
        · refine List.perm_middle.trans ?_
          rw [List.take_append_drop]
        · have hsp : (R.take t ++ R.drop t).Pairwise (tl key) := by rw [List.take_append_drop]; exact hR
          rw [List.pairwise_append] at hsp
          rw [List.pairwise_append, List.pairwise_cons]
          have hA : ∀ y ∈ R.take t, tl key y x := by
            intro y hy
            obtain ⟨q, hq, rfl⟩ := List.getElem_of_mem hy
            rw [List.length_take] at hq
            rw [List.getElem_take]
            have h5 := hlo (t - 1) (by omega) (by omega)
            have h6 := pair_le hR (i := q) (j := t - 1) (by omega) (by omega)
            rcases h6 with h6 | h6
            · left; rw [h6]; exact h5
            · left; unfold tl at h6; omega
          have hB : ∀ y ∈ R.drop t, tl key x y := by
            intro y hy
            obtain ⟨q, hq, rfl⟩ := List.getElem_of_mem hy
            rw [List.length_drop] at hq
            rw [List.getElem_drop]
            have h5 := hhi (by omega)
            have h7 := hx _ (List.getElem_mem (show t + q < R.length by omega))
            have h8 := hx _ (List.getElem_mem (show t < R.length by omega))
            have h6 := pair_le hR (i := t) (j := t + q) (by omega) (by omega)
            rcases h6 with h6 | h6
            · unfold tl; rw [← h6] at h7 ⊢; omega
            · unfold tl at h6 ⊢; omega
          refine ⟨hsp.1, ⟨hB, hsp.2.1⟩, fun y hy z hz => ?_⟩
          rcases List.mem_cons.1 hz with rfl | hz
          · exact hA y hy
          · exact hsp.2.2 y hy z hz
      have hu2 : P ++ (R.take t ++ x :: (R.drop t ++ S)) = P ++ (sortT key (x :: R) ++ S) := by rw [← hu]; simp only [List.append_assoc, List.cons_append]
      simp (disch := first | omega | with_unfolding_all rfl) [h3', hu2]
theorem merge2 (C : Cmp g cs key dom) (hb : b < H.length) (P L S : List Int) (y : Int) (n : Nat) (a m c : Int) (hL1 : 1 < L.length) (hL : L.Pairwise (tl key)) (hx : ∀ x ∈ L, x < y) (hdy : dom y) (hdL : ∀ x ∈ L, dom x)
    (hln : n = P.length + (L.length + (1 + S.length))) (hn : n ≤ 1000) (ha : a = P.length) (hm : m = (P.length : Int) + L.length) (hc : c = (P.length : Int) + L.length + 1) :
    RO tb 56 [mls Int b gen n, .int .i64 a, .int .i64 m, .int .i64 c, .clo (.func g) [] cs] (H.set b (bk 3 gen (P ++ (L ++ (y :: S))))) = some (.tup [], H.set b (bk 3 gen (P ++ (sortT key (L ++ [y]) ++ S)))) := by
  have hfz := C.fz
  have hma : ¬ m - a = 1 := by omega
  have hcm : c - m = 1 := by omega
  refine RO_of_G (F := pf56) rfl rfl rfl ?_
  simp (disch := first | omega | with_unfolding_all rfl) [pf56, env0_eq, hma, hcm]
  refine G_loopK (α := Nat × Nat) (a₀ := (0, L.length)) [0, 2, 4] (fun q e h => get e 14 = .int .i64 (a + q.1) ∧ get e 15 = .int .i64 (a + q.2) ∧ h = H.set b (bk 3 gen (P ++ (L ++ (y :: S)))) ∧ q.1 ≤ q.2 ∧ q.2 ≤ L.length ∧
    (∀ t (ht : t < L.length), t + 1 = q.1 → ¬ key y < key L[t]) ∧ (∀ (ht : q.2 < L.length), key y < key L[q.2])) (fun q => q.2 - q.1) ?_ ?_
  · refine ⟨by simp, by simp; omega, rfl, Nat.zero_le _, Nat.le_refl _, fun t ht h => by omega, fun h => absurd h (Nat.lt_irrefl _)⟩
  rintro ⟨i, j⟩ e h hk ⟨g1, g2, rfl, hij, hj, hlo, hhi⟩
  simp only at g1 g2 hij hj hlo hhi
  simp at hk
  simp (disch := first | omega | with_unfolding_all rfl) [hk, g1, g2]
  refine G_brd (fun h1 => ?_) (fun h1 => ?_)
  · generalize hh : (i + j) / 2 = v
    have hvL : v < L.length := by omega
    have hhalf : (a + (i : Int) + (a + (j : Int))) / 2 = a + (v : Int) := by omega
    have ht1 : (a + (v : Int)).toNat = P.length + v := by omega
    have ht2 : m.toNat = P.length + L.length := by omega
    generalize hZ : P ++ (L ++ y :: S) = Z
    have hlz : Z.length = n := by rw [← hZ]; simp only [List.length_append, List.length_cons]; omega
    have e1 : ∀ h, Z[P.length + v]'h = L[v] := fun h => by subst hZ; exact left_get hvL _ rfl h
    have e2 : ∀ h, Z[P.length + L.length]'h = y := fun h => mid_get (A := P ++ L) (B := S) (by rw [← hZ]; simp only [List.append_assoc]) (by simp only [List.length_append]) h
    obtain ⟨w, hw1, hw2⟩ := C.call y L[v] hdy (hdL _ (List.getElem_mem hvL))
    simp (disch := first | omega | with_unfolding_all rfl) [h1, hhalf, ht1, ht2, hlz, e1, e2, hb, hfz, hw1]
    refine G_brd (fun h2 => ?_) (fun h2 => ?_)
    · have hkx := hw2.1 h2
      simp (disch := first | omega | with_unfolding_all rfl) [h2]
      exact ⟨i, v, by omega, rfl, rfl, by omega, by omega, fun t ht q => by have := hlo t ht q; omega, fun _ => hkx⟩
    · have hkx : ¬ key y < key L[v] := fun q => h2 (hw2.2 q)
      simp (disch := first | omega | with_unfolding_all rfl) [h2]
      refine ⟨v + 1, j, by omega, by omega, rfl, by omega, hj, fun t ht q => ?_, fun ht => ?_⟩
      · obtain rfl : t = v := by omega
        omega
      · exact hhi ht
  · obtain rfl : i = j := by omega
    simp (disch := first | omega | with_unfolding_all rfl) [h1]
    refine G_loopK (α := Nat) (a₀ := L.length) [0, 14] (fun u e h => get e 17 = .int .i64 (a + u) ∧ h = H.set b (bk 3 gen (P ++ (L.take u ++ y :: (L.drop u ++ S)))) ∧ i ≤ u ∧ u ≤ L.length) (fun u => u) ?_ ?_
    · refine ⟨by simp; omega, ?_, hj, Nat.le_refl _⟩
      rw [List.take_of_length_le (Nat.le_refl _), List.drop_of_length_le (Nat.le_refl _)]
      rfl
    rintro u e h hk2 ⟨g3, rfl, hiu, huL⟩
    simp at hk2
    simp (disch := first | omega | with_unfolding_all rfl) [hk2, g3]
    by_cases h3 : i < u
    · have h3' : a + (i : Int) < a + (u : Int) := by omega
      obtain ⟨w, rfl⟩ : ∃ w, u = w + 1 := ⟨u - 1, by omega⟩
      have hwL : w < L.length := by omega
      have hltt : (L.take w).length = w := by rw [List.length_take]; omega
      have hdr : L.drop w = L[w] :: L.drop (w + 1) := List.drop_eq_getElem_cons hwL
      have hst : L.take (w + 1) = L.take w ++ [L[w]] := (take_snoc hwL).symm
      have hldr : (L.drop (w + 1)).length = L.length - (w + 1) := by rw [List.length_drop]
      rw [hst]
      simp only [List.append_assoc, List.cons_append, List.nil_append]
      generalize hZ : P ++ (L.take w ++ L[w] :: y :: (L.drop (w + 1) ++ S)) = Z
      have hlz : Z.length = n := by rw [← hZ]; simp only [List.length_append, List.length_cons]; omega
      have ht1 : (a + (w : Int)).toNat = P.length + w := by omega
      have ht2 : (a + ((w : Int) + 1)).toNat = P.length + w + 1 := by omega
      have ht3 : a + ((w : Int) + 1) - 1 = a + (w : Int) := by omega
      have e1 : ∀ h, Z[P.length + w]'h = L[w] := fun h => mid_get (A := P ++ L.take w) (B := y :: (L.drop (w + 1) ++ S)) (by rw [← hZ]; simp only [List.append_assoc]) (by simp only [List.length_append]; omega) h
      have e2 : ∀ h, Z[P.length + w + 1]'h = y := fun h => mid_get (A := P ++ (L.take w ++ [L[w]])) (B := L.drop (w + 1) ++ S) (by rw [← hZ]; simp only [List.append_assoc, List.cons_append, List.nil_append]) (by simp only [List.length_append, List.length_cons, List.length_nil]; omega) h
      have e3 : (Z.set (P.length + w + 1) L[w]).set (P.length + w) y = P ++ (L.take w ++ y :: (L.drop w ++ S)) := by
        rw [mid_set (Z := Z) (A := P ++ (L.take w ++ [L[w]])) (x := y) (B := L.drop (w + 1) ++ S) _ (by rw [← hZ]; simp only [List.append_assoc, List.cons_append, List.nil_append]) (by simp only [List.length_append, List.length_cons, List.length_nil]; omega)]
        rw [mid_set (A := P ++ L.take w) (x := L[w]) (B := L[w] :: (L.drop (w + 1) ++ S)) _ (by simp only [List.append_assoc, List.cons_append, List.nil_append]) (by simp only [List.length_append]; omega)]
        rw [hdr]; simp only [List.append_assoc, List.cons_append]
      have hls : (Z.set (P.length + w + 1) L[w]).length = n := by rw [List.length_set]; exact hlz
      simp (disch := first | omega | with_unfolding_all rfl) [h3', hlz, hls, ht1, ht2, ht3, e1, e2, e3, hb, hk2, g3, h3]
      exact ⟨w, by omega, rfl, rfl, by omega, by omega⟩
    · obtain rfl : u = i := by omega
      have hu : L.take u ++ y :: L.drop u = sortT key (L ++ [y]) := by
        refine sortT_uniq ?_ ?_
        · refine List.perm_middle.trans ?_
          rw [List.take_append_drop]
          exact List.perm_append_comm (l₁ := [y]) (l₂ := L)
        · have hsp : (L.take u ++ L.drop u).Pairwise (tl key) := by rw [List.take_append_drop]; exact hL
          rw [List.pairwise_append] at hsp
          rw [List.pairwise_append, List.pairwise_cons]
          have hA : ∀ x ∈ L.take u, tl key x y := by
            intro x hx'
            obtain ⟨q, hq, rfl⟩ := List.getElem_of_mem hx'
            rw [List.length_take] at hq
            rw [List.getElem_take]
            have h5 := hlo (u - 1) (by omega) (by omega)
            have h7 := hx _ (List.getElem_mem (show q < L.length by omega))
            have h6 := pair_le hL (i := q) (j := u - 1) (by omega) (by omega)
            rcases h6 with h6 | h6
            · unfold tl; rw [← h6] at h5; omega
            · unfold tl at h6 ⊢; omega
          have hB : ∀ x ∈ L.drop u, tl key y x := by
            intro x hx'
            obtain ⟨q, hq, rfl⟩ := List.getElem_of_mem hx'
            rw [List.length_drop] at hq
            rw [List.getElem_drop]
            have h5 := hhi (by omega)
            have h6 := pair_le hL (i := u) (j := u + q) (by omega) (by omega)
            rcases h6 with h6 | h6
            · left; rw [← h6]; exact h5
            · left; unfold tl at h6; omega
          refine ⟨hsp.1, ⟨hB, hsp.2.1⟩, fun x hx' z hz => ?_⟩
          rcases List.mem_cons.1 hz with rfl | hz
          · exact hA x hx'
          · exact hsp.2.2 x hx' z hz
      have hu2 : P ++ (L.take u ++ y :: (L.drop u ++ S)) = P ++ (sortT key (L ++ [y]) ++ S) := by rw [← hu]; simp only [List.append_assoc, List.cons_append]
      simp (disch := first | omega | with_unfolding_all rfl) [hu2]
end
end Go.Proofs.Ytmbknidfkddpfaa
