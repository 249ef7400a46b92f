/- Demand: what is left over, as plain facts. -/
import Derived.Test.YtbkhmgcfgfcilaaFlowAStable
set_option linter.unusedVariables false
set_option linter.unusedSimpArgs false
set_option maxHeartbeats 1000000
namespace Go.Proofs.Ytbkhmgcfgfcilaa
open Go.Proofs.Ytbkhmgcfgfcilaa.PM

def zz (xs : List Int) (i : Nat) : Int := xs.getD i 0
theorem zz_get {xs : List Int} {i : Nat} (h : i < xs.length) : xs[i] = zz xs i := by simp [zz, h]
def ky (S : List Int) (x : Int) : Int := -(zz S x.toNat)
/-- Who may have one more. -/
def may (S : List Int) (a b : Nat) : Bool := decide (b ≠ a) && decide (0 < zz S b)
def ordL (S : List Int) (a k : Nat) : List Int := ((List.range k).filter (may S a)).map fun b : Nat => (b : Int)
def ordS (S : List Int) (a : Nat) : List Int := sortT (ky S) (ordL S a S.length)
theorem ordL_succ (S : List Int) (a k : Nat) : ordL S a (k + 1) = ordL S a k ++ (if may S a k then [(k : Int)] else []) := by
  unfold ordL
  rw [List.range_succ, List.filter_append, List.map_append]
  congr 1
  cases h : may S a k <;> simp [h]
theorem ordL_mem {S : List Int} {a k : Nat} {x : Int} : x ∈ ordL S a k ↔ ∃ b : Nat, x = b ∧ b < k ∧ may S a b = true := by
  unfold ordL
  simp only [List.mem_map, List.mem_filter, List.mem_range]
  constructor
  · rintro ⟨b, ⟨h1, h2⟩, rfl⟩; exact ⟨b, rfl, h1, h2⟩
  · rintro ⟨b, rfl, h1, h2⟩; exact ⟨b, ⟨h1, h2⟩, rfl⟩
theorem ordL_inc (S : List Int) (a : Nat) : ∀ k, (ordL S a k).Pairwise (· < ·)
  | 0 => List.Pairwise.nil
  | k + 1 => by
    rw [ordL_succ, List.pairwise_append]
    refine ⟨ordL_inc S a k, ?_, fun x hx y hy => ?_⟩
    · split
      · exact List.pairwise_singleton _ _
      · exact List.Pairwise.nil
    · obtain ⟨b, rfl, h1, _⟩ := ordL_mem.1 hx
      split at hy
      · rw [List.mem_singleton] at hy
        subst hy; omega
      · cases hy
theorem ordL_nodup (S : List Int) (a k : Nat) : (ordL S a k).Nodup := (ordL_inc S a k).imp fun h => by omega
theorem ordL_len (S : List Int) (a k : Nat) : (ordL S a k).length ≤ k := by
  unfold ordL
  rw [List.length_map]
  exact Nat.le_trans (List.length_filter_le _ _) (by simp)
theorem ordS_perm (S : List Int) (a : Nat) : (ordS S a).Perm (ordL S a S.length) := sortT_perm _ _
theorem ordS_mem {S : List Int} {a : Nat} {x : Int} : x ∈ ordS S a ↔ ∃ b : Nat, x = b ∧ b < S.length ∧ may S a b = true := by
  rw [(ordS_perm S a).mem_iff]; exact ordL_mem
theorem ordS_nodup (S : List Int) (a : Nat) : (ordS S a).Nodup := (ordS_perm S a).nodup_iff.2 (ordL_nodup S a _)
theorem ordS_len (S : List Int) (a : Nat) : (ordS S a).length ≤ S.length := by rw [(ordS_perm S a).length_eq]; exact ordL_len S a _
theorem ordS_pair (S : List Int) (a : Nat) : (ordS S a).Pairwise (tl (ky S)) := sortT_pair _ _ (ordL_nodup S a _)

/-- The first of the greatest that may be chosen below b. -/
def bst (S : List Int) (cand : Nat → Bool) : Nat → Int
  | 0 => -1
  | b + 1 => if cand b && (decide (bst S cand b < 0) || decide (zz S (bst S cand b).toNat < zz S b)) then (b : Int) else bst S cand b
theorem bst_spec (S : List Int) (cand : Nat → Bool) : ∀ n, (bst S cand n = -1 ∧ ∀ c, c < n → cand c = false) ∨
    ∃ c, bst S cand n = (c : Nat) ∧ c < n ∧ cand c = true ∧ ∀ c', c' < n → cand c' = true → zz S c' < zz S c ∨ (zz S c' = zz S c ∧ c ≤ c')
  | 0 => .inl ⟨rfl, fun c h => by omega⟩
  | n + 1 => by
    rcases bst_spec S cand n with ⟨h1, h2⟩ | ⟨c, h1, h2, h3, h4⟩
    · cases hc : cand n
      · refine .inl ⟨by unfold bst; simp [hc, h1], fun c h => ?_⟩
        rcases Nat.lt_succ_iff_lt_or_eq.1 h with q | rfl
        · exact h2 c q
        · exact hc
      · refine .inr ⟨n, by unfold bst; simp [hc, h1], by omega, hc, fun c' h5 h6 => ?_⟩
        rcases Nat.lt_succ_iff_lt_or_eq.1 h5 with q | rfl
        · rw [h2 c' q] at h6; cases h6
        · exact .inr ⟨rfl, Nat.le_refl _⟩
    · by_cases hc : cand n = true ∧ zz S c < zz S n
      · refine .inr ⟨n, by unfold bst; simp [hc.1, hc.2, h1], by omega, hc.1, fun c' h5 h6 => ?_⟩
        rcases Nat.lt_succ_iff_lt_or_eq.1 h5 with q | rfl
        · have := h4 c' q h6; omega
        · exact .inr ⟨rfl, Nat.le_refl _⟩
      · refine .inr ⟨c, ?_, by omega, h3, fun c' h5 h6 => ?_⟩
        · unfold bst
          rw [h1, if_neg]
          simp only [Bool.and_eq_true, Bool.or_eq_true, decide_eq_true_eq, Int.toNat_natCast]
          rintro ⟨q1, q2 | q2⟩
          · omega
          · exact hc ⟨q1, q2⟩
        · rcases Nat.lt_succ_iff_lt_or_eq.1 h5 with q | rfl
          · exact h4 c' q h6
          · have : ¬ zz S c < zz S c' := fun q => hc ⟨h6, q⟩
            omega
/-- Who may be chosen behind k choices. -/
def cnd (S : List Int) (a k : Nat) (b : Nat) : Bool := may S a b && !decide ((b : Int) ∈ (ordS S a).take k)
/-- The choice is the next one of the sorted ones. -/
theorem bst_ord (S : List Int) (a k : Nat) : bst S (cnd S a k) S.length = if h : k < (ordS S a).length then (ordS S a)[k] else -1 := by
  have hnd := ordS_nodup S a
  have hp := ordS_pair S a
  have hcand : ∀ b : Nat, b < S.length → cnd S a k b = true → ∃ j, k ≤ j ∧ ∃ h : j < (ordS S a).length, (ordS S a)[j] = (b : Int) := by
    intro b hb hc
    unfold cnd at hc
    simp only [Bool.and_eq_true, Bool.not_eq_true', decide_eq_false_iff_not] at hc
    have hm : (b : Int) ∈ ordS S a := ordS_mem.2 ⟨b, rfl, hb, hc.1⟩
    obtain ⟨j, hj, hjb⟩ := List.getElem_of_mem hm
    refine ⟨j, ?_, hj, hjb⟩
    apply Classical.byContradiction
    intro hlt
    apply hc.2
    rw [← hjb]
    exact List.mem_take_iff_getElem.2 ⟨j, by omega, rfl⟩
  split
  · rename_i hk
    have hmk : (ordS S a)[k] ∈ ordS S a := List.getElem_mem hk
    obtain ⟨m, hm, hmn, hmay⟩ := ordS_mem.1 hmk
    have hck : cnd S a k m = true := by
      unfold cnd
      rw [hmay, Bool.true_and, Bool.not_eq_true', decide_eq_false_iff_not]
      intro h
      obtain ⟨j, hj, hje⟩ := List.mem_take_iff_getElem.1 h
      rw [← hm] at hje
      have := (List.getElem_inj hnd).1 hje
      omega
    rcases bst_spec S (cnd S a k) S.length with ⟨h1, h2⟩ | ⟨c, h1, h2, h3, h4⟩
    · have := h2 m hmn
      rw [hck] at this; cases this
    · rw [h1, hm]
      have hcm := h4 m hmn hck
      obtain ⟨j, hj, hjl, hjc⟩ := hcand c h2 h3
      rcases Nat.lt_or_ge k j with q | q
      · have := List.pairwise_iff_getElem.1 hp k j hk hjl q
        rw [hm, hjc] at this
        unfold tl ky at this
        simp only [Int.toNat_natCast] at this
        omega
      · obtain rfl : j = k := by omega
        rw [← hjc, hm]
  · rename_i hk
    rcases bst_spec S (cnd S a k) S.length with ⟨h1, h2⟩ | ⟨c, h1, h2, h3, h4⟩
    · exact h1
    · obtain ⟨j, hj, hjl, _⟩ := hcand c h2 h3
      omega
end Go.Proofs.Ytbkhmgcfgfcilaa
