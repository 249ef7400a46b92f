/- Links: growing, said plainly. -/
import Derived.Test.YtbkhmgcfgfcilaaFlowAVal
set_option linter.unusedVariables false
set_option linter.unusedSimpArgs false
namespace Go.Proofs.Ytbkhmgcfgfcilaa
open Go.Proofs.Ytbkhmgcfgfcilaa.PM

abbrev ltL (a b : Lk) : Prop := a.fr < b.fr ∨ (a.fr = b.fr ∧ a.to < b.to)
theorem ltL_trans {a b c : Lk} (h1 : ltL a b) (h2 : ltL b c) : ltL a c := by unfold ltL at *; omega
theorem less_lt (a b : Lk) : lessLk a b = decide (ltL a b) := by
  unfold lessLk ltL
  rw [Bool.eq_iff_iff]
  split <;> simp only [decide_eq_true_eq] <;> omega
theorem cmp_lt (a b : Lk) : cmpLk a b < 0 ↔ ltL a b := by
  have h1 := less_cmp a b
  rw [less_lt, decide_eq_decide] at h1
  exact h1.symm
theorem cmp_eq (a b : Lk) : cmpLk a b = 0 ↔ a.fr = b.fr ∧ a.to = b.to := by
  simp only [cmpLk, cmp]
  repeat' split
  all_goals omega
def top (x l : Lk) : Lk := ⟨x.fr, x.to, max x.room l.room⟩
def gr (l : Lk) : List Lk → List Lk
  | [] => [l]
  | x :: xs => if ltL x l then x :: gr l xs else if ltL l x then l :: x :: xs else top x l :: xs
theorem gr_at (l : Lk) : ∀ (ls : List Lk) (p : Nat), p ≤ ls.length → (∀ j (h : j < ls.length), j < p → ltL ls[j] l) → (∀ h : p < ls.length, ¬ ltL ls[p] l) →
    gr l ls = if h : p < ls.length then (if ls[p].fr = l.fr ∧ ls[p].to = l.to then ls.set p (top ls[p] l) else ls.take p ++ l :: ls.drop p) else ls ++ [l]
  | [], p, hp, h1, h2 => by
    simp only [List.length_nil, Nat.le_zero] at hp
    subst hp
    rfl
  | x :: xs, 0, hp, h1, h2 => by
    have h3 := h2 (by simp)
    simp only [List.getElem_cons_zero] at h3
    simp only [gr, if_neg h3, List.length_cons, Nat.zero_lt_succ, dite_true, List.getElem_cons_zero, List.set_cons_zero, List.take_zero, List.drop_zero, List.nil_append]
    unfold ltL at *
    by_cases c : x.fr = l.fr ∧ x.to = l.to
    · rw [if_pos c, if_neg (by omega)]
    · rw [if_neg c, if_pos (by omega)]
  | x :: xs, p + 1, hp, h1, h2 => by
    have h3 := h1 0 (by simp) (by omega)
    simp only [List.getElem_cons_zero] at h3
    have h4 := gr_at l xs p (by simpa using hp) (fun j h hj => h1 (j + 1) (by simpa using h) (by omega)) (fun h => h2 (by simpa using h))
    simp only [gr, if_pos h3, h4]
    by_cases hq : p < xs.length
    · rw [dif_pos hq, dif_pos (by simpa using hq)]
      simp only [List.getElem_cons_succ, List.set_cons_succ, List.take_succ_cons, List.drop_succ_cons, List.cons_append]
      split <;> rfl
    · rw [dif_neg hq, dif_neg (by simpa using hq)]
      rfl
theorem gr_len (l : Lk) : ∀ ls, (gr l ls).length ≤ ls.length + 1
  | [] => by simp [gr]
  | x :: xs => by
    have := gr_len l xs
    simp only [gr]
    split
    · simp; omega
    · split <;> simp
theorem gr_lt {l x : Lk} {xs : List Lk} (h : ltL x l) : gr l (x :: xs) = x :: gr l xs := by simp only [gr, if_pos h]
theorem gr_gt {l x : Lk} {xs : List Lk} (h : ltL l x) : gr l (x :: xs) = l :: x :: xs := by
  have h2 : ¬ ltL x l := by unfold ltL at *; omega
  simp only [gr, if_neg h2, if_pos h]
theorem gr_eq {l x : Lk} {xs : List Lk} (h : x.fr = l.fr ∧ x.to = l.to) : gr l (x :: xs) = top x l :: xs := by
  have h1 : ¬ ltL l x := by unfold ltL at *; omega
  have h2 : ¬ ltL x l := by unfold ltL at *; omega
  simp only [gr, if_neg h2, if_neg h1]
@[simp] theorem top_fr (x l : Lk) : (top x l).fr = x.fr := rfl
@[simp] theorem top_to (x l : Lk) : (top x l).to = x.to := rfl
theorem tri (x l : Lk) : ltL x l ∨ ltL l x ∨ (x.fr = l.fr ∧ x.to = l.to) := by unfold ltL; omega
theorem top_top (x a b : Lk) : top (top x a) b = top (top x b) a := by
  unfold top
  simp only [Lk.mk.injEq, true_and]
  omega
theorem top_sym {a b : Lk} (h : a.fr = b.fr ∧ a.to = b.to) : top a b = top b a := by
  unfold top
  simp only [Lk.mk.injEq, h, true_and]
  omega
/-- Links that grow in any order. -/
theorem gr_comm (a b : Lk) : ∀ ls, gr a (gr b ls) = gr b (gr a ls)
  | [] => by
    rcases tri b a with h | h | h
    · show gr a [b] = gr b [a]
      rw [gr_lt h, gr_gt h]; rfl
    · show gr a [b] = gr b [a]
      rw [gr_lt h, gr_gt h]; rfl
    · show gr a [b] = gr b [a]
      rw [gr_eq h, gr_eq ⟨h.1.symm, h.2.symm⟩, top_sym h]
  | x :: xs => by
    have ih := gr_comm a b xs
    rcases tri x a with h1 | h1 | h1 <;> rcases tri x b with h2 | h2 | h2
    · rw [gr_lt h1, gr_lt h2, gr_lt h1, gr_lt h2, ih]
    · have h3 : ltL b a := ltL_trans h2 h1
      rw [gr_lt h1, gr_gt h2, gr_gt h2, gr_lt h3, gr_lt h1]
    · have h3 : ltL (top x b) a := h1
      rw [gr_lt h1, gr_eq h2, gr_eq h2, gr_lt h3]
    · have h3 : ltL a b := ltL_trans h1 h2
      rw [gr_lt h2, gr_gt h1, gr_gt h1, gr_lt h3, gr_lt h2]
    · rw [gr_gt h1, gr_gt h2]
      rcases tri b a with h3 | h3 | h3
      · rw [gr_lt h3, gr_gt h3, gr_gt h1]
      · rw [gr_gt h3, gr_lt h3, gr_gt h2]
      · rw [gr_eq h3, gr_eq ⟨h3.1.symm, h3.2.symm⟩, top_sym h3]
    · have h3 : ltL a (top x b) := h1
      have h4 : ltL a b := by unfold ltL at *; omega
      rw [gr_eq h2, gr_gt h1, gr_gt h3, gr_lt h4, gr_eq h2]
    · have h3 : ltL (top x a) b := h2
      rw [gr_lt h2, gr_eq h1, gr_eq h1, gr_lt h3]
    · have h3 : ltL b (top x a) := h2
      have h4 : ltL b a := by unfold ltL at *; omega
      rw [gr_eq h1, gr_gt h2, gr_gt h3, gr_lt h4, gr_eq h1]
    · have h3 : (top x b).fr = a.fr ∧ (top x b).to = a.to := h1
      have h4 : (top x a).fr = b.fr ∧ (top x a).to = b.to := h2
      rw [gr_eq h1, gr_eq h2, gr_eq h3, gr_eq h4, top_top]
def okL (n : Int) (l : Lk) : Prop := 1 ≤ l.room ∧ l.room ≤ 1000000 ∧ l.fr ≠ l.to ∧ 0 ≤ l.fr ∧ l.fr < n ∧ 0 ≤ l.to ∧ l.to < n
def Good (n : Int) (ls : List Lk) : Prop := (0 ≤ n ∧ n ≤ 40) ∧ (∀ l ∈ ls, okL n l) ∧ ls.Pairwise ltL
theorem pw_of {ls : List Lk} (h : ∀ i (hi : i + 1 < ls.length), ltL ls[i] ls[i + 1]) : ls.Pairwise ltL := by
  rw [List.pairwise_iff_getElem]
  intro i j hi hj hij
  obtain ⟨d, rfl⟩ : ∃ d, j = i + 1 + d := ⟨j - i - 1, by omega⟩
  clear hij
  induction d with
  | zero => exact h i hj
  | succ d ih => exact ltL_trans (ih (by omega)) (h (i + 1 + d) (by omega))
theorem good_iff (n : Int) (ls : List Lk) : valErr n ls = 0 ↔ Good n ls := by
  have hB : (List.range ls.length).any (badAt ls) = false ↔ (∀ l ∈ ls, 1 ≤ l.room ∧ l.room ≤ 1000000 ∧ l.fr ≠ l.to) ∧ ls.Pairwise ltL := by
    rw [List.any_eq_false]
    constructor
    · intro h
      refine ⟨fun l hl => ?_, pw_of fun i hi => ?_⟩
      · obtain ⟨i, hi, rfl⟩ := List.getElem_of_mem hl
        have := h i (List.mem_range.2 hi)
        simp [badAt, hi] at this
        omega
      · have := h (i + 1) (List.mem_range.2 hi)
        simp only [badAt, List.getElem?_eq_getElem hi, Nat.add_sub_cancel, List.getElem?_eq_getElem (show i < ls.length by omega), less_lt] at this
        simp only [Nat.zero_lt_succ, decide_true, Bool.true_and, Bool.or_eq_true, decide_eq_true_eq, Bool.not_eq_true', decide_eq_false_iff_not, not_or, Decidable.not_not] at this
        unfold ltL; omega
    · rintro ⟨h1, h2⟩ i hi
      have hi := List.mem_range.1 hi
      have h3 := h1 _ (List.getElem_mem hi)
      rw [List.pairwise_iff_getElem] at h2
      simp [badAt, hi, less_lt]
      refine ⟨by omega, by omega, h3.2.2, fun h0 => ?_⟩
      have h4 := h2 (i - 1) i (by omega) hi (by omega)
      simpa [show i - 1 < ls.length by omega] using h4
  have hO : (List.range ls.length).any (outAt n ls) = false ↔ ∀ l ∈ ls, 0 ≤ l.fr ∧ l.fr < n ∧ 0 ≤ l.to ∧ l.to < n := by
    rw [List.any_eq_false]
    constructor
    · intro h l hl
      obtain ⟨i, hi, rfl⟩ := List.getElem_of_mem hl
      have := h i (List.mem_range.2 hi)
      simp [outAt, hi] at this
      omega
    · intro h i hi
      have hi := List.mem_range.1 hi
      have h3 := h _ (List.getElem_mem hi)
      simp [outAt, hi]
      omega
  unfold valErr Good
  constructor
  · intro h
    split at h
    · cases h
    split at h
    · cases h
    split at h
    · cases h
    split at h
    · cases h
    rename_i a1 a2 a3 a4
    obtain ⟨b1, b2⟩ := hB.1 (by simpa using a3)
    have b3 := hO.1 (by simpa using a4)
    exact ⟨by omega, fun l hl => ⟨(b1 l hl).1, (b1 l hl).2.1, (b1 l hl).2.2, b3 l hl⟩, b2⟩
  · rintro ⟨h1, h2, h3⟩
    rw [if_neg (by omega), if_neg (by omega), if_neg, if_neg]
    · rw [hO.2 fun l hl => (h2 l hl).2.2.2]; decide
    · rw [hB.2 ⟨fun l hl => ⟨(h2 l hl).1, (h2 l hl).2.1, (h2 l hl).2.2.1⟩, h3⟩]; decide
theorem gr_all {n : Int} {l : Lk} (hl : okL n l) : ∀ {ls : List Lk}, (∀ x ∈ ls, okL n x) → ∀ x ∈ gr l ls, okL n x
  | [], h => by simpa [gr] using hl
  | y :: ys, h => by
    have h1 := h y (by simp)
    have h2 := gr_all hl (ls := ys) fun x hx => h x (by simp [hx])
    simp only [gr]
    split
    · intro x hx
      rcases List.mem_cons.1 hx with rfl | hx
      · exact h1
      · exact h2 x hx
    · split
      · intro x hx
        rcases List.mem_cons.1 hx with rfl | hx
        · exact hl
        · exact h x hx
      · intro x hx
        rcases List.mem_cons.1 hx with rfl | hx
        · unfold okL top at *
          dsimp only
          omega
        · exact h x (by simp [hx])
theorem gr_above {y l : Lk} (h0 : ltL y l) : ∀ {ls : List Lk}, (∀ x ∈ ls, ltL y x) → ∀ x ∈ gr l ls, ltL y x
  | [], h => by simpa [gr] using h0
  | z :: ys, h => by
    have h1 := h z (by simp)
    have h2 := gr_above h0 (ls := ys) fun x hx => h x (by simp [hx])
    simp only [gr]
    split
    · intro x hx
      rcases List.mem_cons.1 hx with rfl | hx
      · exact h1
      · exact h2 x hx
    · split
      · intro x hx
        rcases List.mem_cons.1 hx with rfl | hx
        · exact h0
        · exact h x hx
      · intro x hx
        rcases List.mem_cons.1 hx with rfl | hx
        · exact h1
        · exact h x (by simp [hx])
theorem gr_pw {l : Lk} : ∀ {ls : List Lk}, ls.Pairwise ltL → (gr l ls).Pairwise ltL
  | [], _ => by simp [gr]
  | z :: ys, h => by
    rw [List.pairwise_cons] at h
    simp only [gr]
    split
    · rename_i h1
      rw [List.pairwise_cons]
      exact ⟨gr_above h1 h.1, gr_pw h.2⟩
    · split
      · rename_i h1 h2
        rw [List.pairwise_cons]
        refine ⟨fun x hx => ?_, List.pairwise_cons.2 h⟩
        rcases List.mem_cons.1 hx with rfl | hx
        · exact h2
        · exact ltL_trans h2 (h.1 x hx)
      · rw [List.pairwise_cons]
        exact ⟨fun x hx => h.1 x hx, h.2⟩
theorem gr_good {n : Int} {l : Lk} {ls : List Lk} (h : Good n ls) (hl : okL n l) : Good n (gr l ls) := ⟨h.1, gr_all hl h.2.1, gr_pw h.2.2⟩
def growErr (n : Int) (ls : List Lk) (l : Lk) : Int := if valErr n ls ≠ 0 then valErr n ls else if l.fr < 0 ∨ n ≤ l.fr ∨ l.to < 0 ∨ n ≤ l.to then 2 else if l.room < 1 ∨ 1000000 < l.room ∨ l.fr = l.to then 1 else 0
theorem growErr_0 {n : Int} {ls : List Lk} {l : Lk} : growErr n ls l = 0 ↔ Good n ls ∧ okL n l := by
  rw [← good_iff]
  unfold growErr okL
  split
  · rename_i h
    constructor
    · intro h'; exact absurd h' h
    · rintro ⟨h', _⟩; exact absurd h' h
  · rename_i h
    have h : valErr n ls = 0 := by simpa using h
    split
    · constructor
      · intro h'; cases h'
      · rintro ⟨_, h'⟩; omega
    · split
      · constructor
        · intro h'; cases h'
        · rintro ⟨_, h'⟩; omega
      · constructor
        · intro _; exact ⟨h, by omega⟩
        · intro _; rfl
end Go.Proofs.Ytbkhmgcfgfcilaa
