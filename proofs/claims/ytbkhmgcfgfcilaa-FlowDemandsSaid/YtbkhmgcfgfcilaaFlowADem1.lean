/- Demand: the rest, as the program spreads it. -/
import Derived.Test.YtbkhmgcfgfcilaaFlowADem0
import Derived.Test.YtbkhmgcfgfcilaaFlowAVal
set_option linter.unusedVariables false
set_option linter.unusedSimpArgs false
set_option maxHeartbeats 4000000
set_option maxRecDepth 20000
namespace Go.Proofs.Ytbkhmgcfgfcilaa
open Go.Proofs.Ytbkhmgcfgfcilaa.PM

theorem cmp29 {nl : Nl} {p : Bool} (S : List Int) : Cmp 29 [.pptr p [lst nl S] 0] (ky S) (fun x => 0 ≤ x ∧ x < S.length) where
  fz H := rfl
  call := by
    rintro x y ⟨hx0, hx1⟩ ⟨hy0, hy1⟩
    obtain ⟨X, rfl⟩ : ∃ X : Nat, x = X := ⟨x.toNat, by omega⟩
    obtain ⟨Y, rfl⟩ : ∃ Y : Nat, y = Y := ⟨y.toNat, by omega⟩
    have hX : X < S.length := by omega
    have hY : Y < S.length := by omega
    unfold ky
    simp only [Int.toNat_natCast]
    rw [← zz_get hX, ← zz_get hY]
    have hc := compare_ok S[Y] S[X]
    refine ⟨cmp S[Y] S[X], ?_, ?_⟩
    · refine R_of_G (F := pf29) rfl rfl rfl ?_
      simp (disch := first | omega | with_unfolding_all rfl) [pf29, env0_eq, hX, hY, hc]
    · unfold cmp
      split
      · omega
      · split <;> omega
/-- One more for each of those. -/
def inc1 (r : List Int) (x : Int) : List Int := r.set x.toNat (zz r x.toNat + 1)
def incR (r xs : List Int) : List Int := xs.foldl inc1 r
theorem len_inc1 (r : List Int) (x : Int) : (inc1 r x).length = r.length := by simp [inc1]
theorem len_incR : ∀ (xs r : List Int), (incR r xs).length = r.length
  | [], r => rfl
  | x :: xs, r => by
    show (incR (inc1 r x) xs).length = _
    rw [len_incR xs, len_inc1]
theorem incR_snoc (r xs : List Int) (x : Int) : incR r (xs ++ [x]) = inc1 (incR r xs) x := by simp [incR]
theorem zz_inc1 (r : List Int) (x : Int) (b : Nat) : zz (inc1 r x) b = if x.toNat = b ∧ b < r.length then zz r b + 1 else zz r b := by
  unfold inc1 zz
  simp only [List.getD_eq_getElem?_getD, List.getElem?_set]
  by_cases h1 : x.toNat = b
  · subst h1
    by_cases h2 : x.toNat < r.length
    · simp [h2]
    · simp [h2]
  · simp [h1]
theorem incR_rg : ∀ (xs r : List Int) (b : Nat), zz r b ≤ zz (incR r xs) b ∧ zz (incR r xs) b ≤ zz r b + xs.length
  | [], r, b => ⟨Int.le_refl _, by simp [incR]⟩
  | x :: xs, r, b => by
    obtain ⟨h1, h2⟩ := incR_rg xs (inc1 r x) b
    have h3 : zz r b ≤ zz (inc1 r x) b ∧ zz (inc1 r x) b ≤ zz r b + 1 := by
      rw [zz_inc1]
      split <;> omega
    show zz r b ≤ zz (incR (inc1 r x) xs) b ∧ zz (incR (inc1 r x) xs) b ≤ _
    rw [List.length_cons]
    push_cast
    omega
theorem hpA (P : Hp) (A B : Blk) : (P ++ [A, B])[P.length]? = some A := by simp
theorem hpB (P : Hp) (A B : Blk) : (P ++ [A, B])[P.length + 1]? = some B := by simp
theorem hsA (P : Hp) (A B C : Blk) : (P ++ [A, B]).set P.length C = P ++ [C, B] := by simp
theorem hsB (P : Hp) (A B C : Blk) : (P ++ [A, B]).set (P.length + 1) C = P ++ [A, C] := by simp
theorem rest_ok {S row : List Int} {nl : Nl} (hf : nl ≠ .bor) (hS : S.length ≤ 40) (hrow : row.length = S.length) (hrg : ∀ j, j < row.length → 0 ≤ zz row j ∧ zz row j ≤ 1000000) (P : Hp) (a : Nat) (left : Int) (hl : left ≤ 1000000) :
    RO tb 20 [lst nl S, mls Int P.length 0 S.length, .int .i64 a, .int .i64 left] (P ++ [bk 3 0 row]) = some (.tup [], P ++ [bk 3 0 (incR row ((ordS S a).take left.toNat)), bk 3 (ordL S a S.length).length (ordS S a)]) := by
  have hso := fun (A : Blk) (gen : Nat) => sortStable_ok (b := P.length + 1) (gen := gen) (H := P ++ [A, bk 3 gen (ordL S a S.length)]) (cmp29 (nl := nl) (p := false) S) (by simp) (ordL S a S.length) (ordL_inc S a _) (fun x hx => by
    obtain ⟨b, rfl, h1, _⟩ := ordL_mem.1 hx
    exact ⟨by omega, by omega⟩) _ rfl (Nat.le_trans (ordL_len S a _) hS)
  simp only [hsB] at hso
  change ∀ A gen, _ = some (PV.tup [], P ++ [A, bk 3 gen (ordS S a)]) at hso
  have hol := ordL_len S a
  have hos := ordS_len S a
  refine RO_of_G (F := pf20) rfl rfl rfl ?_
  simp (disch := first | omega | with_unfolding_all rfl) [pf20, env0_eq, hf]
  refine G_loop (fun i e h => i ≤ S.length ∧ h = P ++ [bk 3 0 row, bk 3 (ordL S a i).length (ordL S a i)] ∧ get e 1 = mls Int P.length 0 S.length ∧ get e 2 = .int .i64 a ∧ get e 3 = .int .i64 left ∧ get e 4 = .pptr false [lst nl S] 0 ∧
    get e 8 = mls Int (P.length + 1) (ordL S a i).length (ordL S a i).length ∧ get e 12 = lst nl S ∧ get e 13 = .int .i64 (S.length : Int) ∧ get e 14 = .int .i64 (i : Int)) (fun i => S.length - i) (a₀ := 0) ?_ ?_
  · exact ⟨Nat.zero_le _, rfl, rfl, rfl, rfl, by simp [hf], rfl, rfl, rfl, rfl⟩
  rintro i e h ⟨hi, rfl, g1, g2, g3, g4, g8, g12, g13, g14⟩
  simp (disch := first | omega | with_unfolding_all rfl) [g1, g2, g3, g4, g8, g12, g13, g14]
  refine G_brd (fun hlt => ?_) (fun hlt => ?_)
  · have hsu := ordL_succ S a i
    have hol := ordL_len S a i
    simp (disch := first | omega | with_unfolding_all rfl) [hlt, zz_get]
    by_cases c1 : i = a
    · have hm : may S a i = false := by simp [may, c1]
      rw [hm, if_neg (by simp), List.append_nil] at hsu
      have c1' : (i : Int) = a := by omega
      simp (disch := first | omega | with_unfolding_all rfl) [c1']
      exact ⟨i + 1, by omega, by omega, by rw [hsu]; exact ⟨rfl, rfl⟩, by rw [hsu], by push_cast; omega⟩
    · have c1' : ¬ (i : Int) = a := by omega
      simp (disch := first | omega | with_unfolding_all rfl) [c1']
      by_cases c2 : 0 < zz S i
      · have hm : may S a i = true := by simp [may, c1, c2]
        rw [hm, if_pos rfl] at hsu
        simp (disch := first | omega | with_unfolding_all rfl) [c2, hpB P, hsB P]
        exact ⟨i + 1, by omega, by omega, by rw [hsu]; exact ⟨by simp, rfl⟩, by rw [hsu]; simp, by push_cast; rfl⟩
      · have hm : may S a i = false := by simp [may, c2]
        rw [hm, if_neg (by simp), List.append_nil] at hsu
        simp (disch := first | omega | with_unfolding_all rfl) [c2]
        exact ⟨i + 1, by omega, by omega, by rw [hsu]; exact ⟨rfl, rfl⟩, by rw [hsu], by push_cast; rfl⟩
  · obtain rfl : i = S.length := by omega
    have hso := hso (bk 3 0 row) (ordL S a S.length).length
    have hle : (ordS S a).length = (ordL S a S.length).length := (ordS_perm S a).length_eq
    have hmem : ∀ j, (h : j < (ordS S a).length) → ∃ b : Nat, (ordS S a)[j] = (b : Int) ∧ b < S.length := fun j h => by
      obtain ⟨b, h1, h2, _⟩ := ordS_mem.1 (List.getElem_mem h)
      exact ⟨b, h1, h2⟩
    simp (disch := first | omega | with_unfolding_all rfl) [hso]
    have hmin : (if ((ordL S a S.length).length : Int) < left then ((ordL S a S.length).length : Int) else left) = if ((ordL S a S.length).length : Int) < left then ((ordL S a S.length).length : Int) else left := rfl
    generalize hm : (if ((ordL S a S.length).length : Int) < left then ((ordL S a S.length).length : Int) else left) = m at *
    have hm1 : m ≤ (ordS S a).length := by rw [hle, ← hm]; split <;> omega
    have hm2 : (ordS S a).take left.toNat = (ordS S a).take m.toNat := by
      rw [← hm]
      split
      · rw [List.take_of_length_le (by rw [hle]; omega), List.take_of_length_le (by rw [hle]; omega)]
      · rfl
    rw [hm2]
    clear hm2 hm hmin
    refine G_loop (fun (i : Nat) e h => (i : Int) ≤ (if 0 ≤ m then m else 0) ∧ h = P ++ [bk 3 0 (incR row ((ordS S a).take i)), bk 3 (ordL S a S.length).length (ordS S a)] ∧ get e 1 = mls Int P.length 0 S.length ∧
      get e 8 = mls Int (P.length + 1) (ordL S a S.length).length (ordL S a S.length).length ∧ get e 37 = .int .i64 m ∧ get e 38 = .int .i64 (i : Int)) (fun i => m.toNat - i) (a₀ := 0) ?_ ?_
    · refine ⟨by split <;> omega, rfl, rfl, rfl, rfl, rfl⟩
    rintro i e h ⟨hi, rfl, g1, g8, g37, g38⟩
    simp (disch := first | omega | with_unfolding_all rfl) [g1, g8, g37, g38]
    refine G_brd (fun hlt => ?_) (fun hlt => ?_)
    · have hil : i < (ordS S a).length := by omega
      obtain ⟨b, hb, hbS⟩ := hmem i hil
      have htk : (ordS S a).take (i + 1) = (ordS S a).take i ++ [(b : Int)] := by rw [List.take_succ_eq_append_getElem hil, hb]
      have hln := len_incR ((ordS S a).take i) row
      have hil2 : i < (ordL S a S.length).length := by omega
      have hrg2 : 0 ≤ zz (incR row ((ordS S a).take i)) b ∧ zz (incR row ((ordS S a).take i)) b ≤ 2000000 := by
        have hbl : b < row.length := by omega
        obtain ⟨r0, r1⟩ := hrg b hbl
        obtain ⟨i0, i1⟩ := incR_rg ((ordS S a).take i) row b
        have : ((ordS S a).take i).length ≤ 40 := by simp; omega
        omega
      have hbl : b < (incR row ((ordS S a).take i)).length := by omega
      simp (disch := first | omega | with_unfolding_all rfl) [hlt, hpA P, hpB P, hsA P, hsB P, hb, zz_get]
      exact ⟨i + 1, by omega, by split <;> omega, by rw [htk, incR_snoc]; rfl, by push_cast; rfl⟩
    · have hie : i = m.toNat := by split at hi <;> omega
      simp (disch := first | omega | with_unfolding_all rfl) [hlt]
      rw [hie]
end Go.Proofs.Ytbkhmgcfgfcilaa
