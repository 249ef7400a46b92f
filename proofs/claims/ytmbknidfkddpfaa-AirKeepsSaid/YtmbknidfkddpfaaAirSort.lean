/- Stable sorting of numbers: what the library's functions leave in a block. -/
import Derived.Test.YtmbknidfkddpfaaPmNineteen
import Derived.Test.YtmbknidfkddpfaaAirCode
set_option linter.unusedVariables false
set_option linter.unusedSimpArgs false
set_option maxHeartbeats 1000000
namespace Go.Proofs.Ytmbknidfkddpfaa
open Go.Proofs.Ytmbknidfkddpfaa.PM

theorem set_swap {P Q : List Int} {x y : Int} : ((P ++ x :: y :: Q).set P.length y).set (P.length + 1) x = P ++ y :: x :: Q := by
  rw [List.set_append_right _ _ (Nat.le_refl _), Nat.sub_self, List.set_cons_zero, List.set_append_right _ _ (by omega)]
  simp
section
variable {g : Nat} {cs : List PV} {H : Hp} {b gen : Nat}
theorem mid_get {A B Z : List Int} {x : Int} {k : Nat} (hZ : Z = A ++ x :: B) (hk : k = A.length) (h : k < Z.length) : Z[k] = x := by
  subst hZ; subst hk; simp
theorem mid_set {A B Z : List Int} {x : Int} {k : Nat} (y : Int) (hZ : Z = A ++ x :: B) (hk : k = A.length) : Z.set k y = A ++ y :: B := by
  subst hZ; subst hk; simp
/-- Two parts change their places. -/
theorem swapRange_ok (hb : b < H.length) (cmp : PV) (P X Q Y S : List Int) (hxy : X.length = Y.length) (hn : (P ++ (X ++ (Q ++ (Y ++ S)))).length ≤ 1000) (n a c k : Nat) (hln : n = (P ++ (X ++ (Q ++ (Y ++ S)))).length) (ha : a = P.length) (hc : c = P.length + X.length + Q.length) (hk : k = X.length) :
    RO tb 58 [mls Int b gen n, .int .i64 a, .int .i64 c, .int .i64 k, cmp] (H.set b (bk 3 gen (P ++ (X ++ (Q ++ (Y ++ S)))))) = some (.tup [], H.set b (bk 3 gen (P ++ (Y ++ (Q ++ (X ++ S)))))) := by
  refine RO_of_G (F := pf58) rfl rfl rfl ?_
  simp (disch := first | omega | with_unfolding_all rfl) [pf58, env0_eq]
  simp only [List.length_append] at hn hln
  refine G_scanK [0, 1, 2, 3] (fun i e h => get e 10 = .int .i64 (i : Int) ∧ h = H.set b (bk 3 gen (P ++ (Y.take i ++ (X.drop i ++ (Q ++ (X.take i ++ (Y.drop i ++ S)))))))) (fun _ => false) k 0 ?_ (Nat.zero_le _) ?_
  · simp
  rintro i e h - hi - hk' ⟨g1, rfl⟩
  simp at hk'
  simp (disch := first | omega | with_unfolding_all rfl) [hk', g1]
  refine G_brd (fun h1 => ?_) (fun h1 => ?_)
  · have hix : i < X.length := by omega
    have hiy : i < Y.length := by omega
    have hltx : (X.take i).length = i := by rw [List.length_take]; omega
    have hlty : (Y.take i).length = i := by rw [List.length_take]; omega
    have hldx : (X.drop (i + 1)).length = X.length - (i + 1) := by rw [List.length_drop]
    have hstep : P ++ (Y.take (i + 1) ++ (X.drop (i + 1) ++ (Q ++ (X.take (i + 1) ++ (Y.drop (i + 1) ++ S))))) = P ++ (Y.take i ++ (Y[i] :: (X.drop (i + 1) ++ (Q ++ (X.take i ++ (X[i] :: (Y.drop (i + 1) ++ S))))))) := by
      rw [← take_snoc hix, ← take_snoc hiy]; simp only [List.append_assoc, List.cons_append, List.nil_append]
    rw [List.drop_eq_getElem_cons hix, List.drop_eq_getElem_cons hiy]
    simp only [List.cons_append]
    generalize hZ : P ++ (Y.take i ++ (X[i] :: (X.drop (i + 1) ++ (Q ++ (X.take i ++ (Y[i] :: (Y.drop (i + 1) ++ S))))))) = Z
    have hlz : Z.length = n := by
      rw [← hZ]; simp only [List.length_append, List.length_cons, List.length_take, List.length_drop]; omega
    have e1 : ∀ h, Z[a + i]'h = X[i] := fun h => mid_get (A := P ++ Y.take i) (B := X.drop (i + 1) ++ (Q ++ (X.take i ++ (Y[i] :: (Y.drop (i + 1) ++ S))))) (by rw [← hZ]; simp only [List.append_assoc, List.cons_append]) (by simp only [List.length_append]; omega) h
    have e2 : ∀ h, Z[c + i]'h = Y[i] := fun h => mid_get (A := P ++ (Y.take i ++ (X[i] :: (X.drop (i + 1) ++ (Q ++ X.take i))))) (B := Y.drop (i + 1) ++ S) (by rw [← hZ]; simp only [List.append_assoc, List.cons_append]) (by simp only [List.length_append, List.length_cons]; omega) h
    have e3 : (Z.set (a + i) Y[i]).set (c + i) X[i] = P ++ (Y.take i ++ (Y[i] :: (X.drop (i + 1) ++ (Q ++ (X.take i ++ (X[i] :: (Y.drop (i + 1) ++ S))))))) := by
      rw [mid_set (Z := Z) (A := P ++ Y.take i) (x := X[i]) (B := X.drop (i + 1) ++ (Q ++ (X.take i ++ (Y[i] :: (Y.drop (i + 1) ++ S))))) _ (by rw [← hZ]; simp only [List.append_assoc, List.cons_append]) (by simp only [List.length_append]; omega)]
      rw [mid_set (A := P ++ (Y.take i ++ (Y[i] :: (X.drop (i + 1) ++ (Q ++ X.take i))))) (x := Y[i]) (B := Y.drop (i + 1) ++ S) _ (by simp) (by simp only [List.length_append, List.length_cons]; omega)]
      simp only [List.append_assoc, List.cons_append]
    have t1 : ((a : Int) + i).toNat = a + i := by omega
    have t2 : ((c : Int) + i).toNat = c + i := by omega
    have hls : (Z.set (a + i) Y[i]).length = n := by rw [List.length_set]; exact hlz
    simp (disch := first | omega | with_unfolding_all rfl) [h1, hlz, hls, t1, t2, e1, e2, e3, hb, hstep]
  · have hik : i = X.length := by omega
    simp (disch := first | omega | with_unfolding_all rfl) [h1]
    rw [hik, List.take_of_length_le (Nat.le_of_eq hxy.symm), List.drop_of_length_le (Nat.le_refl _), List.take_of_length_le (Nat.le_refl _), List.drop_of_length_le (Nat.le_of_eq hxy.symm)]
    rfl
theorem swapRange' (hb : b < H.length) (cmp : PV) (P X Q Y S : List Int) (hxy : X.length = Y.length) (n : Nat) (a c k : Int) (hln : n = P.length + (X.length + (Q.length + (Y.length + S.length)))) (hn : n ≤ 1000) (ha : a = P.length) (hc : c = (P.length : Int) + X.length + Q.length) (hk : k = X.length) :
    RO tb 58 [mls Int b gen n, .int .i64 a, .int .i64 c, .int .i64 k, cmp] (H.set b (bk 3 gen (P ++ (X ++ (Q ++ (Y ++ S)))))) = some (.tup [], H.set b (bk 3 gen (P ++ (Y ++ (Q ++ (X ++ S)))))) := by
  have := swapRange_ok (gen := gen) hb cmp P X Q Y S hxy (by simp only [List.length_append]; omega) n P.length (P.length + X.length + Q.length) X.length (by simp only [List.length_append]; omega) rfl rfl rfl
  rw [ha, hc, hk]
  simpa using this
/-- Two parts beside each other change their places. -/
theorem rotate_ok (hb : b < H.length) (cmp : PV) (P U V S : List Int) (hU : U ≠ []) (hV : V ≠ []) (n : Nat) (a m c : Int) (hln : n = P.length + (U.length + (V.length + S.length))) (hn : n ≤ 1000) (ha : a = P.length) (hm : m = (P.length : Int) + U.length) (hc : c = (P.length : Int) + U.length + V.length) :
    RO tb 57 [mls Int b gen n, .int .i64 a, .int .i64 m, .int .i64 c, cmp] (H.set b (bk 3 gen (P ++ (U ++ (V ++ S))))) = some (.tup [], H.set b (bk 3 gen (P ++ (V ++ (U ++ S))))) := by
  refine RO_of_G (F := pf57) rfl rfl rfl ?_
  have hU0 : 0 < U.length := List.length_pos_iff.2 hU
  have hV0 : 0 < V.length := List.length_pos_iff.2 hV
  simp (disch := first | omega | with_unfolding_all rfl) [pf57, env0_eq]
  refine G_loopK (α := List Int × List Int × List Int × List Int) (a₀ := (P, U, V, S)) [0, 2, 4] (fun q e h => get e 10 = .int .i64 (q.2.1.length : Int) ∧ get e 11 = .int .i64 (q.2.2.1.length : Int) ∧ h = H.set b (bk 3 gen (q.1 ++ (q.2.1 ++ (q.2.2.1 ++ q.2.2.2)))) ∧
    m = (q.1.length : Int) + q.2.1.length ∧ n = q.1.length + (q.2.1.length + (q.2.2.1.length + q.2.2.2.length)) ∧ 0 < q.2.1.length ∧ 0 < q.2.2.1.length ∧ q.1 ++ (q.2.2.1 ++ (q.2.1 ++ q.2.2.2)) = P ++ (V ++ (U ++ S))) (fun q => q.2.1.length + q.2.2.1.length) ?_ ?_
  · refine ⟨?_, ?_, rfl, hm, hln, hU0, hV0, rfl⟩
    · simp; omega
    · simp; omega
  rintro ⟨P', U', V', S'⟩ e h hk ⟨g1, g2, rfl, hm', hln', hU', hV', heq⟩
  simp only at g1 g2 hm' hln' hU' hV' heq
  simp at hk
  simp (disch := first | omega | with_unfolding_all rfl) [hk, g1, g2]
  by_cases hij : U'.length = V'.length
  · have hs := swapRange' (gen := gen) hb cmp P' U' [] V' S' hij n (m - (U'.length : Int)) m (U'.length : Int) (by simpa using hln') hn (by omega) (by simp; omega) rfl
    simp only [List.nil_append] at hs
    have hij' : (U'.length : Int) = V'.length := by omega
    simp (disch := first | omega | with_unfolding_all rfl) [hij, hij']
    simp only [hij'] at hs
    simp (disch := first | omega | with_unfolding_all rfl) [hs, heq]
  have hij' : ¬ (U'.length : Int) = V'.length := by omega
  simp (disch := first | omega | with_unfolding_all rfl) [hij, hij']
  by_cases hgt : V'.length < U'.length
  · obtain ⟨U1, U2, rfl, hl1⟩ : ∃ U1 U2, U' = U1 ++ U2 ∧ U1.length = V'.length := ⟨U'.take V'.length, U'.drop V'.length, by simp, by simp; omega⟩
    have hgt' : (V'.length : Int) < ((U1 ++ U2).length : Int) := by omega
    simp only [List.length_append] at *
    have hs := swapRange' (gen := gen) hb cmp P' U1 U2 V' S' hl1 n (m - ((U1.length + U2.length : Nat) : Int)) m (V'.length : Int) (by omega) hn (by omega) (by omega) (by omega)
    generalize hi : U1.length + U2.length = i at *
    simp (disch := first | omega | with_unfolding_all rfl) [hgt, hs]
    exact ⟨P' ++ V', U2, U1, by omega, by omega, by omega, S', by simp only [List.append_assoc], by simp only [List.length_append]; omega, by simp only [List.length_append]; omega, by omega, by omega, by simp only [List.append_assoc] at heq ⊢; exact heq⟩
  · obtain ⟨V1, V2, rfl, hl1⟩ : ∃ V1 V2, V' = V1 ++ V2 ∧ U'.length = V2.length := ⟨V'.take (V'.length - U'.length), V'.drop (V'.length - U'.length), by simp, by simp; omega⟩
    simp only [List.length_append] at *
    have hs := swapRange' (gen := gen) hb cmp P' U' V1 V2 S' hl1 n (m - (U'.length : Int)) (m + ((V1.length + V2.length : Nat) : Int) - (U'.length : Int)) (U'.length : Int) (by omega) hn (by omega) (by omega) rfl
    generalize hi : V1.length + V2.length = i at *
    simp (disch := first | omega | with_unfolding_all rfl) [hgt, hs]
    exact ⟨P', V2, V1, by omega, by omega, by omega, U' ++ S', rfl, by omega, by simp only [List.length_append]; omega, by omega, by omega, by simp only [List.append_assoc] at heq ⊢; exact heq⟩

/-- By key, then by number. -/
def tl (key : Int → Int) (x y : Int) : Prop := key x < key y ∨ (key x = key y ∧ x < y)
theorem tl.trans {key : Int → Int} {x y z : Int} (h1 : tl key x y) (h2 : tl key y z) : tl key x z := by unfold tl at *; omega
structure Cmp (g : Nat) (cs : List PV) (key : Int → Int) (dom : Int → Prop) : Prop where
  fz : ∀ H, fzB H cs = some cs
  call : ∀ x y, dom x → dom y → ∃ c : Int, R tb g (.int .i64 x :: .int .i64 y :: cs) = some (.int .i64 c) ∧ (c < 0 ↔ key x < key y)
/-- The sorted list. -/
def insT (key : Int → Int) (x : Int) : List Int → List Int
  | [] => [x]
  | y :: ys => if key x < key y ∨ (key x = key y ∧ x < y) then x :: y :: ys else y :: insT key x ys
def sortT (key : Int → Int) : List Int → List Int
  | [] => []
  | x :: xs => insT key x (sortT key xs)
theorem insT_perm (key : Int → Int) (x : Int) : ∀ l, (insT key x l).Perm (x :: l)
  | [] => List.Perm.refl _
  | y :: ys => by
    unfold insT
    split
    · exact List.Perm.refl _
    · exact ((insT_perm key x ys).cons y).trans (List.Perm.swap x y ys)
theorem sortT_perm (key : Int → Int) : ∀ l, (sortT key l).Perm l
  | [] => List.Perm.refl _
  | x :: xs => (insT_perm key x _).trans ((sortT_perm key xs).cons x)
theorem insT_pair (key : Int → Int) (x : Int) : ∀ l, l.Pairwise (tl key) → x ∉ l → (insT key x l).Pairwise (tl key)
  | [], _, _ => by simp [insT]
  | y :: ys, h, hx => by
    unfold insT
    rw [List.pairwise_cons] at h
    split
    · rename_i hlt
      rw [List.pairwise_cons, List.pairwise_cons]
      refine ⟨fun z hz => ?_, h⟩
      rcases List.mem_cons.1 hz with rfl | hz
      · exact hlt
      · exact tl.trans hlt (h.1 z hz)
    · rename_i hlt
      rw [List.pairwise_cons]
      refine ⟨fun z hz => ?_, insT_pair key x ys h.2 (fun q => hx (List.mem_cons_of_mem _ q))⟩
      rcases List.mem_cons.1 ((insT_perm key x ys).mem_iff.1 hz) with rfl | hz
      · have : z ≠ y := fun q => hx (q ▸ List.mem_cons_self ..)
        unfold tl; omega
      · exact h.1 z hz
theorem sortT_pair (key : Int → Int) : ∀ l : List Int, l.Nodup → (sortT key l).Pairwise (tl key)
  | [], _ => List.Pairwise.nil
  | x :: xs, h => by
    rw [List.nodup_cons] at h
    exact insT_pair key x _ (sortT_pair key xs h.2) (fun q => h.1 ((sortT_perm key xs).mem_iff.1 q))
theorem pair_uniq {key : Int → Int} : ∀ {l m : List Int}, l.Perm m → l.Pairwise (tl key) → m.Pairwise (tl key) → l = m
  | [], m, h, _, _ => by rw [List.nil_perm.1 h]
  | x :: xs, [], h, _, _ => by cases List.perm_nil.1 h
  | x :: xs, y :: ys, h, hl, hm => by
    have hl' := List.pairwise_cons.1 hl
    have hm' := List.pairwise_cons.1 hm
    have hxy : x = y := by
      have h1 : x ∈ y :: ys := h.mem_iff.1 (List.mem_cons_self ..)
      have h2 : y ∈ x :: xs := h.mem_iff.2 (List.mem_cons_self ..)
      rcases List.mem_cons.1 h1 with q | q
      · exact q
      rcases List.mem_cons.1 h2 with q2 | q2
      · exact q2.symm
      have a1 := hl'.1 y q2
      have a2 := hm'.1 x q
      unfold tl at a1 a2; omega
    subst hxy
    rw [pair_uniq (List.Perm.cons_inv h) hl'.2 hm'.2]
theorem sortT_uniq {key : Int → Int} {l m : List Int} (hp : l.Perm m) (hl : l.Pairwise (tl key)) : l = sortT key m := by
  have hn : m.Nodup := by
    refine (hp.nodup_iff).1 ?_
    refine List.Pairwise.imp ?_ hl
    intro a b h q
    subst q
    unfold tl at h; omega
  exact pair_uniq (hp.trans (sortT_perm key m).symm) hl (sortT_pair key m hn)
theorem insertion_ok {key : Int → Int} {dom : Int → Prop} (C : Cmp g cs key dom) (hb : b < H.length) (P M S : List Int) (hM : M.Pairwise (· < ·)) (hd : ∀ x ∈ M, dom x) (n : Nat) (a c : Int) (hln : n = P.length + (M.length + S.length)) (hn : n ≤ 1000) (ha : a = P.length) (hc : c = (P.length : Int) + M.length) :
    RO tb 55 [mls Int b gen n, .int .i64 a, .int .i64 c, .clo (.func g) [] cs] (H.set b (bk 3 gen (P ++ (M ++ S)))) = some (.tup [], H.set b (bk 3 gen (P ++ (sortT key M ++ S)))) := by
  have hfz := C.fz
  by_cases hM0 : M = []
  · subst hM0
    refine RO_of_G (F := pf55) rfl rfl rfl ?_
    simp at hc
    simp (disch := first | omega | with_unfolding_all rfl) [pf55, env0_eq, sortT]
    refine G_scanK [0, 1, 2, 3] (fun i e h => i = 0 ∧ get e 8 = .int .i64 (a + 1) ∧ h = H.set b (bk 3 gen (P ++ S))) (fun _ => false) 0 0 ?_ (Nat.zero_le _) ?_
    · simp
    rintro i e h - hi - hk ⟨rfl, g1, rfl⟩
    simp at hk
    have h1 : ¬ a + 1 < c := by omega
    simp (disch := first | omega | with_unfolding_all rfl) [hk, g1, h1]
  have hM1 : 0 < M.length := List.length_pos_iff.2 hM0
  refine RO_of_G (F := pf55) rfl rfl rfl ?_
  simp (disch := first | omega | with_unfolding_all rfl) [pf55, env0_eq]
  refine G_loopK (α := Nat × List Int) (a₀ := (1, M.take 1)) [0, 1, 2, 3] (fun q e h => 1 ≤ q.1 ∧ q.1 ≤ M.length ∧ get e 8 = .int .i64 (a + q.1) ∧ q.2.length = q.1 ∧ q.2.Perm (M.take q.1) ∧ q.2.Pairwise (tl key) ∧ h = H.set b (bk 3 gen (P ++ (q.2 ++ (M.drop q.1 ++ S))))) (fun q => M.length - q.1) ?_ ?_
  · refine ⟨Nat.le_refl _, hM1, by simp, by simp; omega, List.Perm.refl _, ?_, by rw [← List.append_assoc (M.take 1), List.take_append_drop]⟩
    cases M with
    | nil => exact absurd rfl hM0
    | cons x xs => simp
  rintro ⟨i, D⟩ e h hk ⟨hi1, hi2, g1, hDl, hDp, hDs, rfl⟩
  simp only at hi1 hi2 g1 hDl hDp hDs
  simp at hk
  simp (disch := first | omega | with_unfolding_all rfl) [hk, g1]
  by_cases hi : i < M.length
  case neg =>
    obtain rfl : i = M.length := by omega
    have h1 : ¬ a + (M.length : Int) < c := by omega
    rw [List.take_length] at hDp
    have hu := sortT_uniq hDp hDs
    simp (disch := first | omega | with_unfolding_all rfl) [h1, hu]
  have h1 : a + (i : Int) < c := by omega
  simp (disch := first | omega | with_unfolding_all rfl) [h1]
  have hdr : M.drop i = M[i] :: M.drop (i + 1) := List.drop_eq_getElem_cons hi
  have hlt : ∀ y ∈ D, y < M[i] := by
    intro y hy
    obtain ⟨j, hj, rfl⟩ := List.getElem_of_mem (hDp.mem_iff.1 hy)
    rw [List.getElem_take]
    exact List.pairwise_iff_getElem.1 hM j i _ _ (by rw [List.length_take] at hj; omega)
  have hDd : ∀ y ∈ D, dom y := fun y hy => hd y (List.mem_of_mem_take (hDp.mem_iff.1 hy))
  have hxd : dom M[i] := hd _ (List.getElem_mem hi)
  refine G_loopK (α := List Int × List Int) (a₀ := (D, [])) [0, 1, 2, 3, 8] (fun q e h => get e 9 = .int .i64 (a + q.1.length) ∧ q.1 ++ q.2 = D ∧ (∀ y ∈ q.2, tl key M[i] y) ∧ h = H.set b (bk 3 gen (P ++ (q.1 ++ (M[i] :: (q.2 ++ (M.drop (i + 1) ++ S))))))) (fun q => q.1.length) ?_ ?_
  · refine ⟨?_, ?_, ?_, ?_⟩
    · simp [hDl]
    · simp
    · simp
    · rw [hdr]; rfl
  rintro ⟨A, Q⟩ e h hk2 ⟨g2, hAQ, hQ, rfl⟩
  simp only at g2 hAQ hQ
  simp at hk2
  simp (disch := first | omega | with_unfolding_all rfl) [hk2, g2]
  have hlM : (M.drop (i + 1)).length = M.length - (i + 1) := by rw [List.length_drop]
  have hAQl : A.length + Q.length = i := by rw [← hDl, ← hAQ, List.length_append]
  have fin : ∀ (hA : ∀ y ∈ A, tl key y M[i]), (A ++ M[i] :: Q).length = i + 1 ∧ (A ++ M[i] :: Q).Perm (M.take (i + 1)) ∧ (A ++ M[i] :: Q).Pairwise (tl key) := by
    intro hA
    refine ⟨by simp only [List.length_append, List.length_cons]; omega, ?_, ?_⟩
    · rw [← take_snoc hi]
      refine (List.perm_middle).trans ?_
      rw [hAQ]
      exact (hDp.cons _).trans (List.perm_append_comm (l₁ := [M[i]]) (l₂ := M.take i))
    · rw [← hAQ, List.pairwise_append] at hDs
      rw [List.pairwise_append, List.pairwise_cons]
      refine ⟨hDs.1, ⟨hQ, hDs.2.1⟩, fun x hx y hy => ?_⟩
      rcases List.mem_cons.1 hy with rfl | hy
      · exact hA x hx
      · exact hDs.2.2 x hx y hy
  rcases List.eq_nil_or_concat A with rfl | ⟨A', y, rfl⟩
  · obtain ⟨f1, f2, f3⟩ := fin (by simp)
    simp (disch := first | omega | with_unfolding_all rfl) [hk2]
    exact ⟨i + 1, by omega, by omega, by omega, by omega, M[i] :: Q, f1, f2, f3, rfl⟩
  · simp only [List.concat_eq_append, List.length_append, List.length_cons, List.length_nil, List.append_assoc, List.cons_append, List.nil_append] at *
    have hyD : y ∈ D := by rw [← hAQ]; simp
    obtain ⟨v, hv1, hv2⟩ := C.call M[i] y hxd (hDd y hyD)
    have hpos : a < a + ((A'.length + (0 + 1) : Nat) : Int) := by omega
    generalize hZ : P ++ (A' ++ y :: M[i] :: (Q ++ (M.drop (i + 1) ++ S))) = Z
    have hlz : Z.length = n := by rw [← hZ]; simp only [List.length_append, List.length_cons]; omega
    have e1 : ∀ h, Z[P.length + A'.length]'h = y := fun h => mid_get (A := P ++ A') (B := M[i] :: (Q ++ (M.drop (i + 1) ++ S))) (by rw [← hZ]; simp only [List.append_assoc]) (by simp only [List.length_append]) h
    have e2 : ∀ h, Z[P.length + A'.length + 1]'h = M[i] := fun h => mid_get (A := P ++ (A' ++ [y])) (B := Q ++ (M.drop (i + 1) ++ S)) (by rw [← hZ]; simp only [List.append_assoc, List.cons_append, List.nil_append]) (by simp only [List.length_append, List.length_cons, List.length_nil]; omega) h
    have e3 : (Z.set (P.length + A'.length + 1) y).set (P.length + A'.length) M[i] = P ++ (A' ++ M[i] :: y :: (Q ++ (M.drop (i + 1) ++ S))) := by
      rw [mid_set (Z := Z) (A := P ++ (A' ++ [y])) (x := M[i]) (B := Q ++ (M.drop (i + 1) ++ S)) _ (by rw [← hZ]; simp only [List.append_assoc, List.cons_append, List.nil_append]) (by simp only [List.length_append, List.length_cons, List.length_nil]; omega)]
      rw [mid_set (A := P ++ A') (x := y) (B := y :: (Q ++ (M.drop (i + 1) ++ S))) _ (by simp only [List.append_assoc, List.cons_append, List.nil_append]) (by simp only [List.length_append])]
      simp only [List.append_assoc, List.cons_append]
    generalize hJ : a + ((A'.length + (0 + 1) : Nat) : Int) = J at *
    have t1 : J.toNat = P.length + A'.length + 1 := by omega
    have t2 : (J - 1).toNat = P.length + A'.length := by omega
    have hls : (Z.set (P.length + A'.length + 1) y).length = n := by rw [List.length_set]; exact hlz
    simp (disch := first | omega | with_unfolding_all rfl) [hpos, hk2, g2, hlz, t1, t2, e1, e2, hb, hfz, hv1]
    refine G_brd (fun h2 => ?_) (fun h2 => ?_)
    · have hxy : tl key M[i] y := .inl (hv2.1 h2)
      simp (disch := first | omega | with_unfolding_all rfl) [h2, hlz, hls, t1, t2, e1, e2, e3, hb, hk2, g2]
      refine ⟨A', by omega, by omega, y :: Q, hAQ, fun z hz => ?_, rfl⟩
      rcases List.mem_cons.1 hz with rfl | hz
      · exact hxy
      · exact hQ z hz
    · obtain ⟨f1, f2, f3⟩ := fin (fun z hz => by
        have hyx : tl key y M[i] := by
          have := hlt y hyD
          have hnk : ¬ key M[i] < key y := fun q => h2 (hv2.2 q)
          unfold tl; omega
        rcases List.mem_append.1 hz with hz | hz
        · rw [← hAQ] at hDs
          exact tl.trans ((List.pairwise_append.1 hDs).2.2 z hz y (by simp)) hyx
        · rw [List.mem_singleton.1 hz]; exact hyx)
      simp (disch := first | omega | with_unfolding_all rfl) [h2, hk2]
      exact ⟨i + 1, by omega, by omega, by omega, by omega, A' ++ y :: M[i] :: Q, by simp only [List.length_append, List.length_cons]; omega, f2, f3, by rw [← hZ]; simp only [List.append_assoc, List.cons_append]⟩
end
end Go.Proofs.Ytmbknidfkddpfaa
