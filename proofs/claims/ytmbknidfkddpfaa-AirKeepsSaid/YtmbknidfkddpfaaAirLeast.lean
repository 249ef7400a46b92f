/- Airports: that the way that is found has the fewest nodes, in plain terms. -/
import Derived.Test.YtmbknidfkddpfaaAirBfs
set_option linter.unusedVariables false
set_option linter.unusedSimpArgs false
namespace Go.Proofs.Ytmbknidfkddpfaa
open Go.Proofs.Ytmbknidfkddpfaa.PM

section
variable {on : Nat → List Int} {z th : Nat → Bool} {N : Nat}
theorem kst_val {r k j : Nat} {c : List Int} {y : Int} (h : (kst on th r c k)[j]? = some y) : c[j]? = some y ∨ (y = r + 1 ∧ th j = true) := by
  unfold kst at h
  split at h
  · exact .inl h
  rename_i hn
  split at h
  · rw [List.getElem?_set] at h
    split at h
    · rename_i hk
      subst hk
      split at h
      · simp only [Option.some.injEq] at h
        refine .inr ⟨h.symm, ?_⟩
        cases ht : th k
        · exact absurd (Or.inr ht) hn
        · rfl
      · cases h
    · exact .inl h
  · exact .inl h
theorem kss_val {r j : Nat} {c : List Int} {y : Int} (k : Nat) (h : (kss on th r c k)[j]? = some y) : c[j]? = some y ∨ (y = r + 1 ∧ th j = true) := by
  induction k with
  | zero => exact .inl h
  | succ k ih =>
    rcases kst_val h with h | h
    · exact ih h
    · exact .inr h
/-- Where 0 stands a wish ends; where more stands one goes through. -/
theorem rss_end (r : Nat) : ∀ (k : Nat) (x : Int), (rss on z th N r)[k]? = some x → (x = 0 → z k = true) ∧ (0 < x → th k = true) := by
  induction r with
  | zero =>
    intro k x hx
    have hk : k < N := by have := (List.getElem?_eq_some_iff.1 hx).1; simpa [rss] using this
    rw [rss, ini_get hk, if_pos hk] at hx
    simp only [Option.some.injEq] at hx
    split at hx
    · rename_i hz
      exact ⟨fun _ => hz, fun h => by omega⟩
    · exact ⟨fun h => by omega, fun h => by omega⟩
  | succ r ih =>
    intro k x hx
    rcases kss_val N hx with h | ⟨h1, h2⟩
    · exact ih k x h
    · exact ⟨fun h => by omega, fun _ => h2⟩
theorem rss_late {o m : Nat} {x : Int} (h : (rss on z th N m)[o]? = some x) (hx : x < 0) (r : Nat) : ∃ y, (rss on z th N (m + r))[o]? = some y ∧ (y < 0 ∨ (m : Int) < y) := by
  induction r with
  | zero => exact ⟨x, h, .inl hx⟩
  | succ r ih =>
    obtain ⟨y, hy, hc⟩ := ih
    have hlt : o < (rss on z th N (m + (r + 1))).length := by
      have := (List.getElem?_eq_some_iff.1 hy).1
      simpa using this
    refine ⟨_, List.getElem?_eq_getElem hlt, ?_⟩
    have h2 : (kss on th (m + r) (rss on z th N (m + r)) N)[o]? = some (rss on z th N (m + (r + 1)))[o] := List.getElem?_eq_getElem hlt
    rcases kss_val N h2 with h3 | ⟨h3, _⟩
    · rw [hy] at h3
      simp only [Option.some.injEq] at h3
      rw [← h3]; exact hc
    · rw [h3]; right; omega
theorem rss_at {o m R : Nat} (hR : m ≤ R) (h : (rss on z th N R)[o]? = some (m : Int)) : (rss on z th N m)[o]? = some (m : Int) := by
  obtain ⟨d, rfl⟩ : ∃ d, R = m + d := ⟨R - m, by omega⟩
  have hlt : o < (rss on z th N m).length := by
    have := (List.getElem?_eq_some_iff.1 h).1
    simpa using this
  have hx := List.getElem?_eq_getElem hlt
  by_cases h0 : 0 ≤ (rss on z th N m)[o]
  · have := rss_keep hx h0 d
    rw [h] at this
    rw [hx]; exact this.symm
  · obtain ⟨y, hy, hc⟩ := rss_late hx (by omega) d
    rw [h] at hy
    simp only [Option.some.injEq] at hy
    omega
theorem hit_kss {r : Nat} {c os : List Int} {x : Int} {j : Nat} (h : hit c x os j = true) (h0 : 0 ≤ x) (k : Nat) : hit (kss on th r c k) x os j = true := by
  induction k with
  | zero => exact h
  | succ k ih => exact hit_keep ih h0
theorem rss_step {k m j : Nat} (hk : k < N) (ht : th k = true) (hj : j < (on k).length) (h : hit (rss on z th N m) m (on k) j = true) : ∃ y, (rss on z th N (m + 1))[k]? = some y ∧ 0 ≤ y ∧ y ≤ m + 1 := by
  have key : ∃ y, (kss on th m (rss on z th N m) (k + 1))[k]? = some y ∧ 0 ≤ y := by
    have hl : k < (kss on th m (rss on z th N m) k).length := by simpa using hk
    have hx := List.getElem?_eq_getElem hl
    by_cases h0 : 0 ≤ (kss on th m (rss on z th N m) k)[k]
    · exact ⟨_, kst_keep hx h0, h0⟩
    · refine ⟨(m : Int) + 1, ?_, by omega⟩
      have hh := anyN_t (i₀ := 0) (Nat.zero_le j) hj (hit_kss (on := on) (th := th) (r := m) h (by omega) k)
      show (kst on th m _ k)[k]? = _
      unfold kst
      rw [if_neg, if_pos hh]
      · rw [List.getElem?_set, if_pos rfl, if_pos hl]
      · rintro (q | q)
        · rw [List.getD_eq_getElem?_getD, hx] at q; exact h0 q
        · rw [ht] at q; cases q
  obtain ⟨y, hy, h0⟩ := key
  have hkeep : ∀ d, (kss on th m (rss on z th N m) (k + 1 + d))[k]? = some y := by
    intro d
    induction d with
    | zero => exact hy
    | succ d ih => exact kst_keep ih h0
  have hf := hkeep (N - (k + 1))
  rw [show k + 1 + (N - (k + 1)) = N by omega] at hf
  exact ⟨y, hf, h0, (inv_kss (inv_rss m) N).hi k y hf⟩
theorem countP_more {p q : Int → Bool} : ∀ {xs : List Int} {x : Int}, x ∈ xs → p x = true → q x = false → (∀ y, q y = true → p y = true) → xs.countP q < xs.countP p
  | y :: ys, x, hx, hp, hq, hi => by
    have hle : ys.countP q ≤ ys.countP p := List.countP_mono_left fun a _ h => hi a h
    simp only [List.countP_cons]
    rcases List.mem_cons.1 hx with rfl | hx
    · rw [hp, hq]; simp only [if_true, Bool.false_eq_true, if_false]; omega
    · have := countP_more hx hp hq hi
      cases hqy : q y
      · simp; split <;> omega
      · rw [hi y hqy]; simp; omega
theorem rss_lt {R : Nat} : ∀ (m : Nat), (∃ o : Nat, (rss on z th N R)[o]? = some (m : Int)) → m + 1 ≤ (rss on z th N R).countP (fun x => decide (0 ≤ x ∧ x ≤ (m : Int)))
  | 0, ⟨o, h⟩ => by
    have hm : (0 : Int) ∈ rss on z th N R := List.mem_of_getElem? h
    have := List.countP_pos_iff (p := fun x : Int => decide (0 ≤ x ∧ x ≤ ((0 : Nat) : Int))) (l := rss on z th N R) |>.2 ⟨0, hm, by simp⟩
    omega
  | m + 1, ⟨o, h⟩ => by
    have hi := inv_rss (on := on) (z := z) (th := th) (N := N) R
    obtain ⟨j, hj, hh⟩ := hi.nx o _ h (by omega)
    have hj2 : (rss on z th N R)[((on o)[j]).toNat]? = some (m : Int) := by
      simp only [hit, List.getElem?_eq_getElem hj, decide_eq_true_eq] at hh
      rw [hh]; congr 1; omega
    have ih := rss_lt m ⟨_, hj2⟩
    have := countP_more (p := fun x => decide (0 ≤ x ∧ x ≤ ((m + 1 : Nat) : Int))) (q := fun x => decide (0 ≤ x ∧ x ≤ (m : Int))) (xs := rss on z th N R) (List.mem_of_getElem? h) (by simp; omega) (by simp; omega)
      (fun y hy => by simp only [decide_eq_true_eq] at hy ⊢; omega)
    omega

/-- A way: its nodes but the last one are gone through, at the last one the wish ends. -/
inductive Wy (on : Nat → List Int) (z th : Nat → Bool) (N : Nat) : List Int → Prop
  | one (v : Int) : 0 ≤ v → v < N → z v.toNat = true → Wy on z th N [v]
  | cons (v o : Int) (rest : List Int) : 0 ≤ v → v < N → th v.toNat = true → o ∈ on v.toNat → Wy on z th N (o :: rest) → Wy on z th N (v :: o :: rest)
theorem wy_least {l : List Int} (h : Wy on z th N l) : ∃ v rest y, l = v :: rest ∧ (rss on z th N N)[v.toNat]? = some y ∧ 0 ≤ y ∧ y ≤ rest.length := by
  induction h with
  | one v h0 h1 hz =>
    refine ⟨v, [], 0, rfl, ?_, by omega, by simp⟩
    have hk : v.toNat < N := by omega
    have h2 : (rss on z th N 0)[v.toNat]? = some 0 := by rw [rss, ini_get hk, if_pos hk, hz]; rfl
    have := rss_keep h2 (Int.le_refl 0) N
    rwa [Nat.zero_add] at this
  | cons v o rest h0 h1 ht ho _ ih =>
    obtain ⟨v', rest', y, heq, hy, hy0, hyl⟩ := ih
    simp only [List.cons.injEq] at heq
    obtain ⟨rfl, rfl⟩ := heq
    have hk : v.toNat < N := by omega
    obtain ⟨m, rfl⟩ : ∃ m : Nat, y = m := ⟨y.toNat, by omega⟩
    have hlt := rss_lt m ⟨_, hy⟩
    have hle := List.countP_le_length (p := fun x : Int => decide (0 ≤ x ∧ x ≤ (m : Int))) (l := rss on z th N N)
    rw [rss_len] at hle
    have hat := rss_at (show m ≤ N by omega) hy
    obtain ⟨j, hj, hoj⟩ := List.getElem_of_mem ho
    obtain ⟨y', h3, h4, h5⟩ := rss_step (z := z) (m := m) hk ht hj (by simp only [hit, List.getElem?_eq_getElem hj, hoj, decide_eq_true_eq]; exact hat)
    have h6 := rss_keep h3 h4 (N - (m + 1))
    rw [show m + 1 + (N - (m + 1)) = N by omega] at h6
    exact ⟨v, _, y', rfl, h6, h4, by simp only [List.length_cons]; omega⟩
theorem walk_wy (hr : ∀ k, k < N → ∀ o ∈ on k, 0 ≤ o ∧ o < N) : ∀ (n : Nat) (v : Int), 0 ≤ v → v < N → (rss on z th N N)[v.toNat]? = some (n : Int) → Wy on z th N (v :: walk on (rss on z th N N) n v)
  | 0, v, h0, h1, h => by
    exact .one v h0 h1 ((rss_end N _ _ h).1 rfl)
  | n + 1, v, h0, h1, h => by
    have hi := inv_rss (on := on) (z := z) (th := th) (N := N) N
    have hnx := nxt_ex (hi.nx _ _ h (by omega))
    rw [show (((n + 1 : Nat) : Int) - 1) = n by omega] at hnx
    have hro := hr _ (by omega) _ hnx.1
    simp only [walk]
    exact .cons v _ _ h0 h1 ((rss_end N _ _ h).2 (by omega)) hnx.1 (walk_wy hr n _ hro.1 hro.2 hnx.2)
/-- What follows has less to go. -/
theorem walk_less (hr : ∀ k, k < N → ∀ o ∈ on k, 0 ≤ o ∧ o < N) : ∀ (n : Nat) (v : Int), 0 ≤ v → v < N → (rss on z th N N)[v.toNat]? = some (n : Int) → ∀ x ∈ walk on (rss on z th N N) n v, ∃ m, (rss on z th N N)[x.toNat]? = some m ∧ m < n
  | 0, v, h0, h1, h => by intro x hx; cases hx
  | n + 1, v, h0, h1, h => by
    have hi := inv_rss (on := on) (z := z) (th := th) (N := N) N
    have hnx := nxt_ex (hi.nx _ _ h (by omega))
    rw [show (((n + 1 : Nat) : Int) - 1) = n by omega] at hnx
    have hro := hr _ (by omega) _ hnx.1
    intro x hx
    simp only [walk, List.mem_cons] at hx
    rcases hx with rfl | hx
    · exact ⟨n, hnx.2, by omega⟩
    · obtain ⟨m, hm1, hm2⟩ := walk_less hr n _ hro.1 hro.2 hnx.2 x hx
      exact ⟨m, hm1, by omega⟩
/-- A way by places. -/
structure WyI (on : Nat → List Int) (z th : Nat → Bool) (N : Nat) (l : List Int) : Prop where
  ne : l ≠ []
  bnd : ∀ i (h : i < l.length), 0 ≤ l[i] ∧ l[i] < N
  go : ∀ i (h : i + 1 < l.length), th l[i].toNat = true ∧ l[i + 1] ∈ on l[i].toNat
  fin : ∀ i (h : i < l.length), i + 1 = l.length → z l[i].toNat = true
theorem Wy.ix {l : List Int} (h : Wy on z th N l) : WyI on z th N l := by
  induction h with
  | one v h0 h1 hz =>
    refine ⟨by simp, fun i h => ?_, fun i h => ?_, fun i h _ => ?_⟩
    · obtain rfl : i = 0 := by simpa using h
      exact ⟨h0, h1⟩
    · simp at h
    · obtain rfl : i = 0 := by simpa using h
      exact hz
  | cons v o rest h0 h1 ht ho _ ih =>
    refine ⟨by simp, fun i h => ?_, fun i h => ?_, fun i h he => ?_⟩
    · cases i with
      | zero => exact ⟨h0, h1⟩
      | succ i => exact ih.bnd i (by simpa using h)
    · cases i with
      | zero => exact ⟨ht, ho⟩
      | succ i => exact ih.go i (by simpa using h)
    · cases i with
      | zero => simp at he
      | succ i => exact ih.fin i (by simpa using h) (by simpa using he)
theorem WyI.wy : ∀ {l : List Int}, WyI on z th N l → Wy on z th N l
  | [], h => absurd rfl h.ne
  | [v], h => .one v (h.bnd 0 (by simp)).1 (h.bnd 0 (by simp)).2 (h.fin 0 (by simp) rfl)
  | v :: o :: rest, h => by
    refine .cons v o rest (h.bnd 0 (by simp)).1 (h.bnd 0 (by simp)).2 (h.go 0 (by simp)).1 (h.go 0 (by simp)).2 (WyI.wy ⟨by simp, fun i q => ?_, fun i q => ?_, fun i q he => ?_⟩)
    · exact h.bnd (i + 1) (by simpa using q)
    · exact h.go (i + 1) (by simpa using q)
    · exact h.fin (i + 1) (by simpa using q) (by simpa using he)
end
end Go.Proofs.Ytmbknidfkddpfaa
