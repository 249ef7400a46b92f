/- Trains: rings, in plain words. -/
import Derived.Test.YtiaeckidlmoohaaGreatTrainRing
set_option linter.unusedVariables false
set_option linter.unusedSimpArgs false
set_option maxHeartbeats 4000000
set_option maxRecDepth 20000
namespace Go.Proofs.YtiaeckidlmoohaaGreat
open Go.Proofs.YtiaeckidlmoohaaGreat.PM

theorem pigeon : ∀ (n : Nat) (g : Nat → Nat), (∀ s, s ≤ n → g s < n) → ∃ a b, a < b ∧ b ≤ n ∧ g a = g b
  | 0, g, h => absurd (h 0 (Nat.le_refl 0)) (Nat.not_lt_zero _)
  | n + 1, g, h => by
    by_cases hx : ∃ s, s ≤ n ∧ g s = g (n + 1)
    · obtain ⟨s, h1, h2⟩ := hx
      exact ⟨s, n + 1, by omega, by omega, h2⟩
    have hx' : ∀ s, s ≤ n → g s ≠ g (n + 1) := fun s h1 h2 => hx ⟨s, h1, h2⟩
    have hn := h (n + 1) (Nat.le_refl _)
    obtain ⟨a, b, h1, h2, h3⟩ := pigeon n (fun s => if g s = n then g (n + 1) else g s) (fun s hs => by
      have := h s (by omega)
      have := hx' s hs
      split <;> omega)
    refine ⟨a, b, h1, by omega, ?_⟩
    have ha := hx' a (by omega)
    have hb := hx' b h2
    split at h3 <;> split at h3 <;> omega

def nx1 (ws : List Int) (k : Int) : Int := if k < 0 then k else wv ws k.toNat
def it (ws : List Int) : Nat → Int → Int
  | 0, k => k
  | m + 1, k => it ws m (nx1 ws k)
theorem it_neg (ws : List Int) : ∀ (m : Nat) {k : Int}, k < 0 → it ws m k = k
  | 0, _, _ => rfl
  | m + 1, k, h => by
    have : nx1 ws k = k := by simp [nx1, h]
    rw [it, this, it_neg ws m h]
theorem it_add (ws : List Int) : ∀ (a b : Nat) (k : Int), it ws (a + b) k = it ws b (it ws a k)
  | 0, b, k => by rw [Nat.zero_add]; rfl
  | a + 1, b, k => by
    rw [show a + 1 + b = (a + b) + 1 from by omega, it, it_add ws a b]
    rfl
theorem chR_iff (ws : List Int) {i : Int} (hi : 0 ≤ i) : ∀ (m : Nat) (k : Int), chR ws i m k = i ↔ ∃ t, t ≤ m ∧ it ws t k = i
  | 0, k => by
    constructor
    · intro h
      exact ⟨0, Nat.le_refl _, h⟩
    · rintro ⟨t, h1, h2⟩
      obtain rfl : t = 0 := by omega
      exact h2
  | m + 1, k => by
    rw [chR]
    by_cases c : k < 0
    · rw [if_pos (.inl c)]
      constructor
      · intro h
        exact ⟨0, Nat.zero_le _, h⟩
      · rintro ⟨t, _, h2⟩
        rw [it_neg ws t c] at h2
        exact h2
    by_cases d : k = i
    · rw [if_pos (.inr d)]
      exact ⟨fun h => ⟨0, Nat.zero_le _, h⟩, fun _ => d⟩
    have hn : nx1 ws k = wv ws k.toNat := by rw [nx1, if_neg c]
    rw [if_neg (by omega), chR_iff ws hi m, ← hn]
    constructor
    · rintro ⟨t, h1, h2⟩
      exact ⟨t + 1, by omega, h2⟩
    · rintro ⟨t, h1, h2⟩
      cases t with
      | zero => exact absurd h2 d
      | succ t => exact ⟨t, by omega, h2⟩
theorem chP_chR (ws : List Int) (i : Int) : ∀ (m : Nat) (k : Int), chP ws i (m + 1) k = chR ws i m (wv ws k.toNat)
  | 0, k => by
    rw [chP, chP, chR]
    split <;> rfl
  | m + 1, k => by
    rw [chP, chR, chP_chR ws i m]
def InRing (ws : List Int) (i : Nat) : Prop := ∃ t, it ws t (wv ws i) = i
theorem it_rg {ws : List Int} (hw : okW ws = true) : ∀ (m : Nat) {k : Int}, -1 ≤ k → k < ws.length → -1 ≤ it ws m k ∧ it ws m k < ws.length
  | 0, k, h1, h2 => ⟨h1, h2⟩
  | m + 1, k, h1, h2 => by
    rw [it]
    by_cases c : k < 0
    · have : nx1 ws k = k := by simp [nx1, c]
      rw [this]
      exact it_rg hw m h1 h2
    · have hn : nx1 ws k = wv ws k.toNat := by rw [nx1, if_neg c]
      have := okW_rg hw (i := k.toNat) (by omega)
      rw [hn]
      exact it_rg hw m this.1 this.2
theorem ring_short {ws : List Int} (hw : okW ws = true) {i : Nat} (hi : i < ws.length) : ∀ (T : Nat), it ws T (wv ws i) = i → ∃ t, t ≤ ws.length - 1 ∧ it ws t (wv ws i) = i := by
  intro T
  induction T using Nat.strongRecOn with
  | _ T ih =>
    intro hT
    by_cases c : T ≤ ws.length - 1
    · exact ⟨T, c, hT⟩
    have hwi := okW_rg hw hi
    have hnn : ∀ s, s ≤ T → 0 ≤ it ws s (wv ws i) := fun s hs => by
      refine Int.not_lt.1 fun hneg => ?_
      have := it_add ws s (T - s) (wv ws i)
      rw [show s + (T - s) = T from by omega, hT, it_neg ws _ hneg] at this
      omega
    obtain ⟨a, b, h1, h2, h3⟩ := pigeon ws.length (fun s => (it ws s (wv ws i)).toNat) (fun s hs => by
      have := it_rg hw s hwi.1 hwi.2
      have := hnn s (by omega)
      omega)
    have h4 : it ws a (wv ws i) = it ws b (wv ws i) := by
      have := hnn a (by omega)
      have := hnn b (by omega)
      omega
    refine ih (a + (T - b)) (by omega) ?_
    rw [it_add, h4, ← it_add, show b + (T - b) = T from by omega, hT]
theorem pR_iff {ws : List Int} (hw : okW ws = true) {i : Nat} (hi : i < ws.length) : pR ws i = true ↔ InRing ws i := by
  rw [pR, decide_eq_true_iff, chR_iff ws (by omega)]
  constructor
  · rintro ⟨t, _, h⟩
    exact ⟨t, h⟩
  · rintro ⟨t, h⟩
    obtain ⟨t', h1, h2⟩ := ring_short hw hi t h
    exact ⟨t', by omega, h2⟩
theorem pP_iff {ws : List Int} (hw : okW ws = true) {i : Nat} (hi : i < ws.length) : pP ws i = true ↔ InRing ws i := by
  obtain ⟨m, hm⟩ : ∃ m, ws.length = m + 1 := ⟨ws.length - 1, by omega⟩
  rw [pP, decide_eq_true_iff, hm, chP_chR, Int.toNat_natCast, chR_iff ws (by omega)]
  constructor
  · rintro ⟨t, _, h⟩
    exact ⟨t, h⟩
  · rintro ⟨t, h⟩
    obtain ⟨t', h1, h2⟩ := ring_short hw hi t h
    exact ⟨t', by omega, h2⟩
theorem rl_congr {p q : Nat → Bool} {n : Nat} (h : ∀ i, i < n → p i = q i) : rl p n = rl q n := by
  unfold rl
  congr 1
  exact List.filter_congr fun x hx => h x (List.mem_range.1 hx)
theorem ringV_eq (ws : List Int) : ringV pP ws = ringV pR ws := by
  unfold ringV
  split
  · rename_i hw
    rw [rl_congr (q := pR ws) fun i hi => ?_]
    have h1 := pP_iff hw hi
    have h2 := pR_iff hw hi
    cases h3 : pP ws i <;> cases h4 : pR ws i <;> simp_all
  · rfl
/-- What a number of a ring waits for is in a ring. -/
theorem ring_next {ws : List Int} (hw : okW ws = true) {i : Nat} (hi : i < ws.length) (h : InRing ws i) : 0 ≤ wv ws i ∧ InRing ws (wv ws i).toNat := by
  obtain ⟨t, ht⟩ := h
  have h0 : 0 ≤ wv ws i := by
    refine Int.not_lt.1 fun hneg => ?_
    rw [it_neg ws t hneg] at ht
    omega
  refine ⟨h0, t, ?_⟩
  have hn : nx1 ws (wv ws i) = wv ws (wv ws i).toNat := by rw [nx1, if_neg (by omega)]
  rw [← hn]
  show it ws (t + 1) (wv ws i) = _
  rw [it_add, ht]
  show nx1 ws i = _
  rw [nx1, if_neg (by omega), Int.toNat_natCast]
  omega
theorem it_mul {ws : List Int} {i : Nat} {t : Nat} (h : it ws (t + 1) i = i) : ∀ m, it ws (m * (t + 1)) i = i
  | 0 => by rw [Nat.zero_mul]; rfl
  | m + 1 => by rw [Nat.succ_mul, it_add, it_mul h m, h]
theorem ring_inj {ws : List Int} {i j : Nat} (hi : InRing ws i) (hj : InRing ws j) (h : wv ws i = wv ws j) : i = j := by
  obtain ⟨t, ht⟩ := hi
  obtain ⟨s, hs⟩ := hj
  have hn : ∀ k : Nat, nx1 ws k = wv ws k := fun k => by rw [nx1, if_neg (by omega), Int.toNat_natCast]
  have h1 : it ws (t + 1) i = i := by show it ws t (nx1 ws i) = _; rw [hn]; exact ht
  have h2 : it ws (s + 1) j = j := by show it ws s (nx1 ws j) = _; rw [hn]; exact hs
  have h3 := it_mul h1 (s + 1)
  have h4 := it_mul h2 (t + 1)
  obtain ⟨M, hM⟩ : ∃ M, (s + 1) * (t + 1) = M + 1 := ⟨(s + 1) * (t + 1) - 1, by
    have : 0 < (s + 1) * (t + 1) := Nat.mul_pos (by omega) (by omega)
    omega⟩
  rw [hM] at h3
  rw [Nat.mul_comm, hM] at h4
  have h5 : it ws (M + 1) i = it ws M (wv ws i) := by show it ws M (nx1 ws i) = _; rw [hn]
  have h6 : it ws (M + 1) j = it ws M (wv ws j) := by show it ws M (nx1 ws j) = _; rw [hn]
  rw [h5, h] at h3
  rw [h6] at h4
  omega
theorem mem_rl {p : Nat → Bool} {n : Nat} {v : Int} : v ∈ rl p n ↔ ∃ i : Nat, i < n ∧ p i = true ∧ v = i := by
  unfold rl
  simp only [List.mem_map, List.mem_filter, List.mem_range]
  constructor
  · rintro ⟨i, ⟨h1, h2⟩, rfl⟩
    exact ⟨i, h1, h2, rfl⟩
  · rintro ⟨i, h1, h2, rfl⟩
    exact ⟨i, ⟨h1, h2⟩, rfl⟩
theorem rl_inc (p : Nat → Bool) (n : Nat) : (rl p n).Pairwise (· < ·) := by
  unfold rl
  rw [List.pairwise_map]
  refine List.Pairwise.filter _ ?_
  exact (List.pairwise_lt_range).imp fun h => by omega
end Go.Proofs.YtiaeckidlmoohaaGreat
