/- Demand: the sums of the rows; the law. -/
import Derived.Test.YtbkhmgcfgfcilaaFlowADem4
set_option linter.unusedVariables false
set_option linter.unusedSimpArgs false
set_option maxHeartbeats 4000000
set_option maxRecDepth 20000
namespace Go.Proofs.Ytbkhmgcfgfcilaa
open Go.Proofs.Ytbkhmgcfgfcilaa.PM

theorem sumN_ind (m : Nat) : ∀ n, sumN (fun b => if b = m then 1 else 0) n = if m < n then 1 else 0
  | 0 => by simp [sumN]
  | n + 1 => by
    rw [sumN_succ, sumN_ind m n]
    by_cases h1 : n = m
    · subst h1; simp
    · by_cases h2 : m < n
      · simp [h1, h2, show m < n + 1 by omega]
      · simp [h1, h2, show ¬ m < n + 1 by omega]
theorem sumN_inc1 {r : List Int} {m : Nat} (hm : m < r.length) : sumN (zz (inc1 r m)) r.length = sumN (zz r) r.length + 1 := by
  have h1 : sumN (zz (inc1 r m)) r.length = sumN (fun b => zz r b + if b = m then 1 else 0) r.length := sumN_congr fun b hb => by
    rw [zz_inc1]
    by_cases e : b = m
    · subst e; simp [hb]
    · rw [if_neg (by rintro ⟨q, _⟩; simp at q; omega), if_neg e]; omega
  rw [h1, sumN_add, sumN_ind, if_pos hm]
theorem sumN_incR : ∀ (xs r : List Int), (∀ x ∈ xs, ∃ m : Nat, x = m ∧ m < r.length) → sumN (zz (incR r xs)) r.length = sumN (zz r) r.length + xs.length
  | [], r, _ => by simp [incR]
  | x :: xs, r, h => by
    obtain ⟨m, rfl, hm⟩ := h x (by simp)
    have h1 := sumN_incR xs (inc1 r m) fun y hy => by
      rw [len_inc1]; exact h y (by simp [hy])
    rw [len_inc1, sumN_inc1 hm] at h1
    show sumN (zz (incR (inc1 r m) xs)) r.length = _
    rw [h1]
    simp; omega
theorem sumN_may (S : List Int) (a : Nat) : ∀ n, sumN (fun b => if may S a b then 1 else 0) n = (ordL S a n).length
  | 0 => by simp [sumN, ordL]
  | n + 1 => by
    rw [sumN_succ, sumN_may S a n, ordL_succ]
    cases may S a n <;> simp
/-- What is left over is not more than who may have one more. -/
theorem left_fit {S : List Int} (h : okS S) {a : Nat} (ha : a < S.length) (hT : 0 < othS S a) : 0 ≤ leftS S a S.length ∧ leftS S a S.length ≤ (ordS S a).length := by
  have hs := h a ha
  have hol : ((ordS S a).length : Int) = sumN (fun b => if may S a b then 1 else 0) S.length := by
    rw [sumN_may, (ordS_perm S a).length_eq]
  have hrem : ∀ b, b < S.length → 0 ≤ zz S a * (if b = a then 0 else zz S b) - othS S a * qq S a b ∧ zz S a * (if b = a then 0 else zz S b) - othS S a * qq S a b ≤ (othS S a - 1) * (if may S a b then 1 else 0) := by
    intro b hb
    have hb0 := h b hb
    by_cases c1 : b = a
    · have : qq S a b = 0 := by unfold qq; rw [if_pos c1]
      rw [if_pos c1, this]
      have hm : may S a b = false := by simp [may, c1]
      rw [hm]
      simp
    · have hq : qq S a b = zz S a * zz S b / othS S a := by unfold qq; rw [if_neg c1, if_pos hT]
      rw [if_neg c1, hq]
      have h1 := Int.emod_add_mul_ediv (zz S a * zz S b) (othS S a)
      have h2 := Int.emod_nonneg (zz S a * zz S b) (show othS S a ≠ 0 by omega)
      have h3 := Int.emod_lt_of_pos (zz S a * zz S b) hT
      by_cases c2 : 0 < zz S b
      · have hm : may S a b = true := by simp [may, c1, c2]
        rw [hm, if_pos rfl, Int.mul_one]
        omega
      · have hz : zz S b = 0 := by omega
        have hm : may S a b = false := by simp [may, c2]
        rw [hm, hz]
        simp
  have hsum : sumN (fun b => zz S a * (if b = a then 0 else zz S b) - othS S a * qq S a b) S.length = othS S a * leftS S a S.length := by
    have e1 : sumN (fun b => zz S a * (if b = a then 0 else zz S b) - othS S a * qq S a b) S.length = sumN (fun b => zz S a * (if b = a then 0 else zz S b) + -(othS S a) * qq S a b) S.length := sumN_congr fun b _ => by rw [Int.neg_mul]; omega
    rw [e1, sumN_add, sumN_mul, sumN_mul, ← oth_eq ha]
    unfold leftS
    rw [Int.mul_sub, Int.neg_mul, Int.mul_comm (zz S a)]
    omega
  have l1 := sumN_le (f := fun _ => 0) S.length fun b hb => (hrem b hb).1
  have l2 := sumN_le S.length fun b hb => (hrem b hb).2
  rw [sumN_const, hsum] at l1
  rw [hsum, sumN_mul, ← hol] at l2
  constructor
  · have : 0 ≤ othS S a * leftS S a S.length := by omega
    apply Classical.byContradiction
    intro hn
    have := Int.mul_neg_of_pos_of_neg hT (show leftS S a S.length < 0 by omega)
    omega
  · apply Classical.byContradiction
    intro hn
    have h5 : ((ordS S a).length : Int) + 1 ≤ leftS S a S.length := by omega
    have h6 := Int.mul_le_mul_of_nonneg_left h5 (show 0 ≤ othS S a by omega)
    rw [Int.mul_add, Int.mul_one] at h6
    rw [Int.sub_mul, Int.one_mul] at l2
    omega
theorem row_sum {S : List Int} (h : okS S) {a : Nat} (ha : a < S.length) : sumN (zz (demRow S a)) S.length = if 0 < othS S a then zz S a else 0 := by
  have hlen := len_bR (S := S) (a := a) (Nat.le_refl _)
  split
  · rename_i hT
    obtain ⟨f0, f1⟩ := left_fit h ha hT
    have h1 := sumN_incR ((ordS S a).take (leftS S a S.length).toNat) (bR S a S.length) fun x hx => by
      obtain ⟨b, h1, h2, _⟩ := ordS_mem.1 (List.mem_of_mem_take hx)
      exact ⟨b, h1, by omega⟩
    rw [hlen] at h1
    have h2 : sumN (zz (bR S a S.length)) S.length = sumN (qq S a) S.length := sumN_congr fun b hb => by rw [bR_get (Nat.le_refl _) hb, if_pos hb]
    rw [h2] at h1
    unfold demRow
    rw [h1, List.length_take]
    unfold leftS at f0 f1 ⊢
    omega
  · rename_i hT
    rw [demRow_0 h ha hT]
    have h2 : sumN (zz (bR S a 0)) S.length = sumN (fun _ => 0) S.length := sumN_congr fun b hb => by rw [bR_get (Nat.zero_le _) hb, if_neg (by omega)]
    rw [h2, sumN_const]
    simp
theorem row_rg {S : List Int} (h : okS S) (hl : S.length ≤ 40) {a b : Nat} (ha : a < S.length) (hb : b < S.length) : 0 ≤ zz (demRow S a) b ∧ zz (demRow S a) b ≤ 2000000 := by
  obtain ⟨i0, i1⟩ := incR_rg ((ordS S a).take (leftS S a S.length).toNat) (bR S a S.length) b
  rw [bR_get (Nat.le_refl _) hb, if_pos hb] at i0 i1
  obtain ⟨q0, q1⟩ := qq_rg h ha hb
  have h1 := (h a ha).2
  have h2 := ordS_len S a
  have : ((ordS S a).take (leftS S a S.length).toNat).length ≤ 40 := by simp; omega
  unfold demRow
  omega
end Go.Proofs.Ytbkhmgcfgfcilaa
