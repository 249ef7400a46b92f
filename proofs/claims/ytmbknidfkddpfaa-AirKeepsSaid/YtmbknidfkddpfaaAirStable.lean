/- Stable sorting of at most 40 numbers. -/
import Derived.Test.YtmbknidfkddpfaaAirMerge2
set_option linter.unusedVariables false
set_option linter.unusedSimpArgs false
set_option maxHeartbeats 4000000
namespace Go.Proofs.Ytmbknidfkddpfaa
open Go.Proofs.Ytmbknidfkddpfaa.PM
section
variable {g : Nat} {cs : List PV} {H : Hp} {b gen : Nat} {key : Int → Int} {dom : Int → Prop}
theorem ins0 (C : Cmp g cs key dom) (hb : b < H.length) (M S : List Int) (hM : M.Pairwise (· < ·)) (hd : ∀ x ∈ M, dom x) (n : Nat) (c : Int) (hln : n = M.length + S.length) (hn : n ≤ 1000) (hc : c = M.length) :
    RO tb 55 [mls Int b gen n, .int .i64 0, .int .i64 c, .clo (.func g) [] cs] (H.set b (bk 3 gen (M ++ S))) = some (.tup [], H.set b (bk 3 gen (sortT key M ++ S))) := by
  have := insertion_ok (gen := gen) C hb [] M S hM hd n 0 c (by simpa using hln) hn (by simp) (by simpa using hc)
  simpa using this
theorem ins1 (C : Cmp g cs key dom) (hb : b < H.length) (P M : List Int) (hM : M.Pairwise (· < ·)) (hd : ∀ x ∈ M, dom x) (n : Nat) (a c : Int) (hln : n = P.length + M.length) (hn : n ≤ 1000) (ha : a = P.length) (hc : c = (P.length : Int) + M.length) :
    RO tb 55 [mls Int b gen n, .int .i64 a, .int .i64 c, .clo (.func g) [] cs] (H.set b (bk 3 gen (P ++ M))) = some (.tup [], H.set b (bk 3 gen (P ++ sortT key M))) := by
  have := insertion_ok (gen := gen) C hb P M [] hM hd n a c (by simpa using hln) hn ha hc
  simpa using this
theorem mrg (C : Cmp g cs key dom) (hb : b < H.length) (L R : List Int) (hL0 : L ≠ []) (hR0 : R ≠ []) (hL : L.Pairwise (tl key)) (hR : R.Pairwise (tl key)) (hx : ∀ x ∈ L, ∀ y ∈ R, x < y) (hdL : ∀ x ∈ L, dom x) (hdR : ∀ x ∈ R, dom x) (n : Nat) (m c : Int) (hln : n = L.length + R.length) (hn : n ≤ 1000) (hm : m = L.length) (hc : c = (L.length : Int) + R.length) :
    RO tb 56 [mls Int b gen n, .int .i64 0, .int .i64 m, .int .i64 c, .clo (.func g) [] cs] (H.set b (bk 3 gen (L ++ R))) = some (.tup [], H.set b (bk 3 gen (sortT key (L ++ R)))) := by
  have := merge_ok C (gen := gen) hb (L.length + R.length) [] L R [] n 0 m c (Nat.le_refl _) hL0 hR0 hL hR hx hdL hdR (by simpa using hln) hn (by simp) (by simpa using hm) (by simpa using hc)
  simpa using this
theorem stable_ok (C : Cmp g cs key dom) (hb : b < H.length) (M : List Int) (hM : M.Pairwise (· < ·)) (hd : ∀ x ∈ M, dom x) (n : Nat) (hln : n = M.length) (hn : n ≤ 40) :
    RO tb 52 [mls Int b gen n, .int .i64 n, .clo (.func g) [] cs] (H.set b (bk 3 gen M)) = some (.tup [], H.set b (bk 3 gen (sortT key M))) := by
  refine RO_of_G (F := pf52) rfl rfl rfl ?_
  simp (disch := first | omega | with_unfolding_all rfl) [pf52, env0_eq]
  by_cases h20 : n < 20
  · have hi := ins0 (gen := gen) C hb M [] hM hd n n (by simp [hln]) (by omega) (by omega)
    simp only [List.append_nil] at hi
    have h1 : ¬ (20 : Int) ≤ n := by omega
    have h2 : ¬ (20 : Int) < n := by omega
    rw [G_unroll]
    simp (disch := first | omega | with_unfolding_all rfl) [h1, hi]
    rw [G_unroll]
    simp (disch := first | omega | with_unfolding_all rfl) [h2]
  have hM2 : M = M.take 20 ++ M.drop 20 := (List.take_append_drop 20 M).symm
  generalize hA : M.take 20 = A at *
  generalize hB : M.drop 20 = B at *
  have hAl : A.length = 20 := by rw [← hA, List.length_take]; omega
  have hBl : B.length = n - 20 := by rw [← hB, List.length_drop]; omega
  have hAB : (A ++ B).Pairwise (· < ·) := by rw [← hM2]; exact hM
  rw [List.pairwise_append] at hAB
  have hdA : ∀ x ∈ A, dom x := fun x h => hd x (by rw [hM2]; exact List.mem_append_left _ h)
  have hdB : ∀ x ∈ B, dom x := fun x h => hd x (by rw [hM2]; exact List.mem_append_right _ h)
  have hi1 := ins0 (gen := gen) C hb A B hAB.1 hdA n 20 (by omega) (by omega) (by omega)
  have hsA : (sortT key A).length = 20 := by rw [(sortT_perm key A).length_eq]; exact hAl
  have hsB : (sortT key B).length = n - 20 := by rw [(sortT_perm key B).length_eq]; exact hBl
  have hi2 := ins1 (gen := gen) C hb (sortT key A) B hAB.2.1 hdB n 20 n (by omega) (by omega) (by omega) (by omega)
  have hnA : A.Nodup := hAB.1.imp (fun h e => by omega)
  have hnB : B.Nodup := hAB.2.1.imp (fun h e => by omega)
  have hfin : sortT key (sortT key A ++ sortT key B) = sortT key M := by
    have h1 : (sortT key A ++ sortT key B).Perm M := by rw [hM2]; exact (sortT_perm key A).append (sortT_perm key B)
    have hnM : M.Nodup := hM.imp (fun h e => by omega)
    exact sortT_uniq ((sortT_perm key _).trans h1) (sortT_pair key _ (h1.nodup_iff.2 hnM))
  have hmg : 20 < n → RO tb 56 [mls Int b gen n, .int .i64 0, .int .i64 20, .int .i64 n, .clo (.func g) [] cs] (H.set b (bk 3 gen (sortT key A ++ sortT key B))) = some (.tup [], H.set b (bk 3 gen (sortT key M))) := fun h => by
    rw [← hfin]
    refine mrg C (gen := gen) hb (sortT key A) (sortT key B) (by intro q; rw [q] at hsA; simp at hsA) (by intro q; rw [q] at hsB; simp at hsB; omega) (sortT_pair key A hnA) (sortT_pair key B hnB) (fun x h1 y h2 => hAB.2.2 x ((sortT_perm key A).mem_iff.1 h1) y ((sortT_perm key B).mem_iff.1 h2))
      (fun x h => hdA x ((sortT_perm key A).mem_iff.1 h)) (fun x h => hdB x ((sortT_perm key B).mem_iff.1 h)) n 20 n (by omega) (by omega) (by omega) (by omega)
  rw [hM2]
  have k1 : (20 : Int) ≤ n := by omega
  by_cases h40 : n < 40
  · have k2 : ¬ (40 : Int) ≤ n := by omega
    have k3 : ¬ (40 : Int) < n := by omega
    rw [G_unroll]
    simp (disch := first | omega | with_unfolding_all rfl) [k1, hi1]
    rw [G_unroll]
    simp (disch := first | omega | with_unfolding_all rfl) [k2, hi2]
    rw [← hM2]
    by_cases h21 : 20 < n
    · have k4 : (20 : Int) < n := by omega
      rw [G_unroll]
      simp (disch := first | omega | with_unfolding_all rfl) [k4]
      rw [G_unroll]
      simp (disch := first | omega | with_unfolding_all rfl) [k2, k4, hmg h21]
      rw [G_unroll]
      simp (disch := first | omega | with_unfolding_all rfl) [k3]
    · have k4 : ¬ (20 : Int) < n := by omega
      have hB0 : B = [] := List.length_eq_zero_iff.1 (by omega)
      have hA1 : sortT key A ++ sortT key B = sortT key M := by rw [hM2, hB0]; simp [sortT]
      rw [G_unroll]
      simp (disch := first | omega | with_unfolding_all rfl) [k4, hA1]
  · obtain rfl : n = 40 := by omega
    have c40 : ((40 : Nat) : Int) = 40 := rfl
    rw [c40] at hi2 hmg
    have hi3 := ins1 (gen := gen) C hb (sortT key A ++ sortT key B) [] List.Pairwise.nil (fun x h => by cases h) 40 40 40 (by simp only [List.length_append, List.length_nil]; omega) (by omega) (by simp only [List.length_append]; omega) (by simp only [List.length_append, List.length_nil]; omega)
    simp only [List.append_nil, sortT] at hi3
    have hm40 := hmg (by omega)
    rw [← hM2] at hi1 ⊢
    rw [c40, G_unroll]
    simp (disch := first | omega | with_unfolding_all rfl) [hi1]
    rw [G_unroll]
    simp (disch := first | omega | with_unfolding_all rfl) [hi2]
    rw [G_unroll]
    simp (disch := first | omega | with_unfolding_all rfl) [hi3]
    rw [G_unroll]
    simp (disch := first | omega | with_unfolding_all rfl)
    rw [G_unroll]
    simp (disch := first | omega | with_unfolding_all rfl) [hm40]
    rw [G_unroll]
    simp (disch := first | omega | with_unfolding_all rfl)
    rw [G_unroll]
    simp (disch := first | omega | with_unfolding_all rfl)
theorem sortStable_ok (C : Cmp g cs key dom) (hb : b < H.length) (M : List Int) (hM : M.Pairwise (· < ·)) (hd : ∀ x ∈ M, dom x) (n : Nat) (hln : n = M.length) (hn : n ≤ 40) :
    RO tb 38 [mls Int b gen n, .clo (.func g) [] cs] (H.set b (bk 3 gen M)) = some (.tup [], H.set b (bk 3 gen (sortT key M))) := by
  have h := stable_ok (gen := gen) C hb M hM hd n hln hn
  refine RO_of_G (F := pf38) rfl rfl rfl ?_
  simp (disch := first | omega | with_unfolding_all rfl) [pf38, env0_eq, h]
end
end Go.Proofs.Ytmbknidfkddpfaa
