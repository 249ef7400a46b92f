/- Airports: the numbers of steps to where a wish ends, in plain terms. -/
import Derived.Test.YtmbknidfkddpfaaPmSeventeen
set_option linter.unusedVariables false
set_option linter.unusedSimpArgs false
namespace Go.Proofs.Ytmbknidfkddpfaa
open Go.Proofs.Ytmbknidfkddpfaa.PM

section
variable (on : Nat → List Int) (z th : Nat → Bool) (N : Nat)
/-- What the places hold ahead of the rounds. -/
def ini : Nat → List Int
  | 0 => List.replicate N 0
  | i + 1 => (ini i).set i (if z i then 0 else -1)
/-- Whether a node that follows has a number. -/
def hit (c : List Int) (r : Int) (os : List Int) (j : Nat) : Bool := match os[j]? with | some o => decide (c[o.toNat]? = some r) | none => false
def kst (r : Nat) (c : List Int) (k : Nat) : List Int := if 0 ≤ c.getD k 0 ∨ th k = false then c else if anyN (hit c r (on k)) 0 (on k).length then c.set k (r + 1) else c
def kss (r : Nat) (c : List Int) : Nat → List Int
  | 0 => c
  | k + 1 => kst on th r (kss r c k) k
/-- What the places hold behind rounds. -/
def rss : Nat → List Int
  | 0 => ini z N N
  | r + 1 => kss on th r (rss r) N
/-- The next node of the way. -/
def nxt (c : List Int) (os : List Int) (n : Int) : Int := (os.find? (fun o => decide (c[o.toNat]? = some n))).getD 0
def walk (c : List Int) : Nat → Int → List Int
  | 0, _ => []
  | n + 1, v => nxt c (on v.toNat) n :: walk c n (nxt c (on v.toNat) n)

variable {on z th N}
@[simp] theorem ini_len (i : Nat) : (ini z N i).length = N := by
  induction i with
  | zero => simp [ini]
  | succ i ih => simp [ini, ih]
@[simp] theorem kst_len (r : Nat) (c : List Int) (k : Nat) : (kst on th r c k).length = c.length := by
  unfold kst
  split
  · rfl
  split
  · simp
  · rfl
@[simp] theorem kss_len (r : Nat) (c : List Int) (k : Nat) : (kss on th r c k).length = c.length := by
  induction k with
  | zero => rfl
  | succ k ih => simp [kss, ih]
@[simp] theorem rss_len (r : Nat) : (rss on z th N r).length = N := by
  induction r with
  | zero => simp [rss]
  | succ r ih => simp [rss, ih]
theorem ini_get {k : Nat} (hk : k < N) (i : Nat) : (ini z N i)[k]? = some (if k < i then (if z k then 0 else -1) else 0) := by
  induction i with
  | zero => simp [ini, hk]
  | succ i ih =>
    simp only [ini, List.getElem?_set, ini_len]
    by_cases h : i = k
    · subst h; simp [hk]
    · rw [if_neg h, ih]
      by_cases h2 : k < i
      · have h3 : k < i + 1 := by omega
        simp [h2, h3]
      · have h3 : ¬ k < i + 1 := by omega
        simp [h2, h3]
/-- What holds of the places always. -/
structure Inv (on : Nat → List Int) (N : Nat) (B : Int) (c : List Int) : Prop where
  len : c.length = N
  lo : ∀ (k : Nat) (x : Int), c[k]? = some x → -1 ≤ x
  hi : ∀ (k : Nat) (x : Int), c[k]? = some x → x ≤ B
  nx : ∀ (k : Nat) (x : Int), c[k]? = some x → 0 < x → ∃ j, j < (on k).length ∧ hit c (x - 1) (on k) j = true
theorem Inv.mono {B B' : Int} {c : List Int} (h : Inv on N B c) (hB : B ≤ B') : Inv on N B' c := ⟨h.len, h.lo, fun k x hx => Int.le_trans (h.hi k x hx) hB, h.nx⟩
theorem inv_ini : Inv on N 0 (ini z N N) := by
  have key : ∀ (k : Nat) (x : Int), (ini z N N)[k]? = some x → x = 0 ∨ x = -1 := by
    intro k x hx
    have hk : k < N := by have := (List.getElem?_eq_some_iff.1 hx).1; simpa using this
    rw [ini_get hk] at hx
    simp only [hk, if_true, Option.some.injEq] at hx
    split at hx <;> omega
  refine ⟨by simp, fun k x hx => ?_, fun k x hx => ?_, fun k x hx h0 => ?_⟩
  · rcases key k x hx with h | h <;> omega
  · rcases key k x hx with h | h <;> omega
  · rcases key k x hx with h | h <;> omega
theorem kst_keep {r k j : Nat} {c : List Int} {x : Int} (h : c[j]? = some x) (h0 : 0 ≤ x) : (kst on th r c k)[j]? = some x := by
  unfold kst
  split
  · exact h
  rename_i hn
  split
  · by_cases hk : k = j
    · subst hk
      simp only [List.getD_eq_getElem?_getD, h, Option.getD_some] at hn
      exact absurd (Or.inl h0) hn
    · rw [List.getElem?_set_ne hk]; exact h
  · exact h
theorem kss_keep {r j : Nat} {c : List Int} {x : Int} (h : c[j]? = some x) (h0 : 0 ≤ x) (k : Nat) : (kss on th r c k)[j]? = some x := by
  induction k with
  | zero => exact h
  | succ k ih => exact kst_keep ih h0
theorem rss_keep {j : Nat} {x : Int} {r : Nat} (h : (rss on z th N r)[j]? = some x) (h0 : 0 ≤ x) (r' : Nat) : (rss on z th N (r + r'))[j]? = some x := by
  induction r' with
  | zero => exact h
  | succ r' ih => exact kss_keep ih h0 N
theorem hit_keep {r k j : Nat} {c os : List Int} {x : Int} (h : hit c x os j = true) (h0 : 0 ≤ x) : hit (kst on th r c k) x os j = true := by
  unfold hit at h ⊢
  split at h
  · rename_i o ho
    simp only [decide_eq_true_eq] at h
    simp only [ho, decide_eq_true_eq]
    exact kst_keep h h0
  · cases h
theorem inv_kst {r k : Nat} {c : List Int} (h : Inv on N (r + 1) c) : Inv on N (r + 1) (kst on th r c k) := by
  have hlen : (kst on th r c k).length = N := by rw [kst_len]; exact h.len
  by_cases hc : 0 ≤ c.getD k 0 ∨ th k = false
  · have : kst on th r c k = c := by unfold kst; rw [if_pos hc]
    rw [this]; exact h
  by_cases ha : anyN (hit c r (on k)) 0 (on k).length = true
  case neg =>
    have : kst on th r c k = c := by unfold kst; rw [if_neg hc, if_neg ha]
    rw [this]; exact h
  have he : kst on th r c k = c.set k (r + 1) := by unfold kst; rw [if_neg hc, if_pos ha]
  have hx : ∀ (j : Nat) (x : Int), (kst on th r c k)[j]? = some x → (j = k ∧ x = r + 1) ∨ (j ≠ k ∧ c[j]? = some x) := by
    intro j x hx
    rw [he] at hx
    by_cases hj : k = j
    · subst hj
      rw [List.getElem?_set] at hx
      simp only [if_true] at hx
      split at hx
      · simp only [Option.some.injEq] at hx; exact .inl ⟨rfl, hx.symm⟩
      · cases hx
    · rw [List.getElem?_set_ne hj] at hx; exact .inr ⟨fun q => hj q.symm, hx⟩
  refine ⟨hlen, fun j x q => ?_, fun j x q => ?_, fun j x q h0 => ?_⟩
  · rcases hx j x q with ⟨_, rfl⟩ | ⟨_, q⟩
    · omega
    · exact h.lo j x q
  · rcases hx j x q with ⟨_, rfl⟩ | ⟨_, q⟩
    · omega
    · exact h.hi j x q
  · rcases hx j x q with ⟨rfl, rfl⟩ | ⟨_, q⟩
    · obtain ⟨i, _, h1, h2⟩ := anyN_of ha
      refine ⟨i, h1, hit_keep ?_ (by omega)⟩
      rw [show ((r : Int) + 1 - 1) = r by omega]; exact h2
    · obtain ⟨i, h1, h2⟩ := h.nx j x q h0
      exact ⟨i, h1, hit_keep h2 (by omega)⟩
theorem inv_kss {r : Nat} {c : List Int} (h : Inv on N r c) (k : Nat) : Inv on N (r + 1) (kss on th r c k) := by
  induction k with
  | zero => exact h.mono (by omega)
  | succ k ih => exact inv_kst ih
theorem inv_rss (r : Nat) : Inv on N r (rss on z th N r) := by
  induction r with
  | zero => exact inv_ini
  | succ r ih => exact inv_kss ih N
theorem nxt_eq {c os : List Int} {n : Int} {j : Nat} (h : hit c n os j = true) (hz : ∀ i, i < j → hit c n os i = false) (hj : j < os.length) : nxt c os n = os[j] := by
  unfold nxt
  have : os.find? (fun o => decide (c[o.toNat]? = some n)) = some os[j] := by
    rw [List.find?_eq_some_iff_getElem]
    refine ⟨by simpa [hit, hj] using h, j, hj, rfl, fun i hi => ?_⟩
    have := hz i hi
    simp only [hit, List.getElem?_eq_getElem (show i < os.length by omega)] at this
    simpa using this
  rw [this]; rfl
theorem nxt_ex {c os : List Int} {n : Int} (h : ∃ j, j < os.length ∧ hit c n os j = true) : nxt c os n ∈ os ∧ c[(nxt c os n).toNat]? = some n := by
  obtain ⟨j, hj, hh⟩ := h
  have hex : (os.find? (fun o => decide (c[o.toNat]? = some n))).isSome := by
    rw [List.find?_isSome]
    exact ⟨os[j], List.getElem_mem hj, by simpa [hit, hj] using hh⟩
  obtain ⟨o, ho⟩ := Option.isSome_iff_exists.1 hex
  have h1 := List.find?_some ho
  have h2 := List.mem_of_find?_eq_some ho
  unfold nxt
  rw [ho]
  simp only [Option.getD_some]
  exact ⟨h2, by simpa using h1⟩
theorem anyN_succ (f : Nat → Bool) (j : Nat) : anyN f 0 (j + 1) = (anyN f 0 j || f j) := by
  simp [anyN, List.range'_concat, List.any_append]
def sif (c : List Int) (k r : Nat) (b : Bool) : List Int := if b then c.set k (r + 1) else c
@[simp] theorem sif_len (c : List Int) (k r : Nat) (b : Bool) : (sif c k r b).length = c.length := by unfold sif; split <;> simp
theorem sif_hit {c : List Int} {k r : Nat} {b : Bool} (hk : c.getD k 0 < 0) (o : Nat) : ((sif c k r b)[o]? = some (r : Int)) ↔ (c[o]? = some (r : Int)) := by
  unfold sif
  split
  · rw [List.getElem?_set]
    split
    · rename_i h
      subst h
      simp only [List.getD_eq_getElem?_getD] at hk
      split
      · constructor
        · intro q; simp only [Option.some.injEq] at q; omega
        · intro q; rw [q] at hk; simp only [Option.getD_some] at hk; omega
      · constructor
        · intro q; cases q
        · intro q; rw [q] at hk; simp only [Option.getD_some] at hk; omega
    · exact Iff.rfl
  · exact Iff.rfl
theorem sif_set (c : List Int) (k r : Nat) (b : Bool) : (sif c k r b).set k (r + 1) = sif c k r true := by unfold sif; split <;> simp
theorem kst_sif {on : Nat → List Int} {th : Nat → Bool} {r k : Nat} {c : List Int} (h : c.getD k 0 < 0) (ht : th k = true) : kst on th r c k = sif c k r (anyN (hit c r (on k)) 0 (on k).length) := by
  unfold kst sif
  rw [if_neg]
  rintro (q | q)
  · omega
  · rw [ht] at q; cases q
end
end Go.Proofs.Ytmbknidfkddpfaa
