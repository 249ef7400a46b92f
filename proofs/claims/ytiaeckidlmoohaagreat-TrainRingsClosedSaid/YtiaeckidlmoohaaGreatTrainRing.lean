/- Trains: the numbers that wait in a ring. -/
import Derived.Test.YtiaeckidlmoohaaGreatTrainTb
set_option linter.unusedVariables false
set_option linter.unusedSimpArgs false
set_option maxHeartbeats 4000000
set_option maxRecDepth 20000
namespace Go.Proofs.YtiaeckidlmoohaaGreat
open Go.Proofs.YtiaeckidlmoohaaGreat.PM

def wv (ws : List Int) (i : Nat) : Int := ws.getD i 0
theorem wv_get {ws : List Int} {i : Nat} (h : i < ws.length) : ws[i] = wv ws i := by simp [wv, h]
def badW (ws : List Int) (i : Nat) : Bool := decide (wv ws i < -1) || decide ((ws.length : Int) ≤ wv ws i)
def okW (ws : List Int) : Bool := !anyN (badW ws) 0 ws.length
theorem okW_rg {ws : List Int} (h : okW ws = true) {i : Nat} (hi : i < ws.length) : -1 ≤ wv ws i ∧ wv ws i < ws.length := by
  have := anyN_off (by simpa [okW] using h) (Nat.zero_le i) hi
  simp only [badW, Bool.or_eq_false_iff, decide_eq_false_iff_not] at this
  omega
def chP (ws : List Int) (i : Int) : Nat → Int → Int
  | 0, k => k
  | m + 1, k => if wv ws k.toNat < 0 ∨ wv ws k.toNat = i then wv ws k.toNat else chP ws i m (wv ws k.toNat)
def chR (ws : List Int) (i : Int) : Nat → Int → Int
  | 0, k => k
  | m + 1, k => if k < 0 ∨ k = i then k else chR ws i m (wv ws k.toNat)
def rl (p : Nat → Bool) (i : Nat) : List Int := ((List.range i).filter p).map fun (j : Nat) => (j : Int)
theorem rl_succ (p : Nat → Bool) (i : Nat) : rl p (i + 1) = rl p i ++ (if p i then [(i : Int)] else []) := by
  unfold rl
  rw [List.range_succ, List.filter_append, List.map_append]
  cases h : p i <;> simp [h]
theorem rl_len (p : Nat → Bool) (i : Nat) : (rl p i).length ≤ i := by
  unfold rl
  rw [List.length_map]
  have := List.length_filter_le p (List.range i)
  simpa using this
def pP (ws : List Int) (i : Nat) : Bool := decide (chP ws i ws.length i = i)
def pR (ws : List Int) (i : Nat) : Bool := decide (chR ws i ws.length (wv ws i) = i)
def ringV (p : List Int → Nat → Bool) (ws : List Int) : PV := if okW ws = true then .tup [lst .any (rl (p ws) ws.length), .int .i64 0] else .tup [.list .nil 1 [], .int .i64 1]
theorem ring_ok {nl : Nl} (ws : List Int) (h : ws.length ≤ 100000) : R tb 31 [lst nl ws] = some (ringV pP ws) := by
  have hw := fun (h : okW ws = true) (i : Nat) => okW_rg (i := i) h
  refine R_of_G (F := pf31) rfl rfl rfl ?_
  simp (disch := first | omega | with_unfolding_all rfl) [pf31, env0_eq]
  refine G_scanC [0, 9, 10] 11 (badW ws) ws.length 0 (by simp) (Nat.zero_le _) ?_
  rintro i e - hi hz hk g11
  simp at hk
  obtain ⟨g0, g9, g10⟩ := hk
  simp (disch := first | omega | with_unfolding_all rfl) [g0, g9, g10, g11]
  refine G_brd (fun c => ?_) (fun c => ?_)
  · simp (disch := first | omega | with_unfolding_all rfl) [g0, g9, g10, g11, c, wv_get]
    cases hb : badW ws i
    · have hb' := hb
      simp only [badW, Bool.or_eq_false_iff, decide_eq_false_iff_not] at hb'
      have b1 : ¬ wv ws i < -1 := hb'.1
      have b2 : ¬ (ws.length : Int) ≤ wv ws i := hb'.2
      simp (disch := first | omega | with_unfolding_all rfl) [g0, g9, g10, g11, b1, b2, hb, c]
    · have hv : okW ws = false := by
        rw [okW, anyN_t (Nat.zero_le i) (by omega) hb]; rfl
      have hb' := hb
      simp only [badW, Bool.or_eq_true, decide_eq_true_eq] at hb'
      by_cases b1 : wv ws i < -1
      · simp (disch := first | omega | with_unfolding_all rfl) [b1, ringV, hv]
      · have b2 : (ws.length : Int) ≤ wv ws i := by omega
        simp (disch := first | omega | with_unfolding_all rfl) [b1, b2, ringV, hv]
  have hv : okW ws = true := by rw [okW, anyN_cut hz (by omega)]; rfl
  have hw := hw hv
  have hrv : ringV pP ws = .tup [lst .any (rl (pP ws) ws.length), .int .i64 0] := by rw [ringV, if_pos hv]
  rw [hrv]
  clear g9 g10 g11 hz hrv
  simp (disch := first | omega | with_unfolding_all rfl) [g0, c]
  generalize hp : pP ws = p
  refine G_loop (fun i e h => i ≤ ws.length ∧ h = [bk 3 (rl p i).length (rl p i)] ∧ get e 0 = lst nl ws ∧ get e 6 = mls Int 0 (rl p i).length (rl p i).length ∧ get e 25 = .int .i64 (ws.length : Int) ∧ get e 26 = .int .i64 (i : Int)) (fun i => ws.length - i) (a₀ := 0) ?_ ?_
  · simp (disch := first | omega | with_unfolding_all rfl) [g0, rl]
  clear hi c g0 i e
  rintro i e hh ⟨hi, rfl, g0, g6, g25, g26⟩
  have hL := rl_len p i
  have htk := rl_succ p i
  generalize hLL : rl p i = L at *
  simp (disch := first | omega | with_unfolding_all rfl) [g0, g6, g25, g26]
  refine G_brd (fun hlt => ?_) (fun hlt => ?_)
  · have hlt' : i < ws.length := by omega
    simp (disch := first | omega | with_unfolding_all rfl) [g0, g6, g25, g26, hlt]
    obtain ⟨K, hK⟩ : ∃ K, K = chP ws i ws.length i := ⟨_, rfl⟩
    refine G_loopK [0, 6, 7, 25, 26] (fun (a : Nat × Nat) e' h' => a.1 ≤ ws.length ∧ a.2 < ws.length ∧ K = chP ws i (ws.length - a.1) a.2 ∧ h' = [bk 3 L.length L] ∧ get e' 31 = .int .i64 (ws.length : Int) ∧ get e' 32 = .int .i64 (a.1 : Int) ∧ get e' 8 = .int .i64 (a.2 : Int)) (fun a => ws.length - a.1) (a₀ := (0, i)) ?_ ?_
    · simp (disch := first | omega | with_unfolding_all rfl) [hK]
      omega
    rintro ⟨j, k⟩ e2 h2 hk2 ⟨hj, hkl, hKj, rfl, q31, q32, q8⟩
    dsimp only at hj hkl hKj q32 q8
    simp [g0, g6, g25, g26] at hk2
    obtain ⟨q0, q6, q7, q25, q26⟩ := hk2
    have hpi : p i = decide (K = (i : Int)) := by rw [← hp, pP, hK]
    have hr := hw k hkl
    simp (disch := first | omega | with_unfolding_all rfl) [q0, q6, q7, q8, q25, q26, q31, q32, wv_get]
    refine G_brd (fun c3 => ?_) (fun c3 => ?_)
    · obtain ⟨m, hm⟩ : ∃ m, ws.length - j = m + 1 := ⟨ws.length - j - 1, by omega⟩
      rw [hm, chP, Int.toNat_natCast] at hKj
      have hm' : ws.length - (j + 1) = m := by omega
      simp (disch := first | omega | with_unfolding_all rfl) [q0, q6, q7, q8, q25, q26, q31, q32, wv_get, c3]
      by_cases c4 : wv ws k < 0
      · rw [if_pos (.inl c4)] at hKj
        have c5 : ¬ wv ws k = (i : Int) := by omega
        have hpf : p i = false := by rw [hpi, hKj]; simpa using c5
        rw [hpf] at htk
        simp (disch := first | omega | with_unfolding_all rfl) [q0, q6, q7, q8, q25, q26, q31, q32, c4, c5]
        refine ⟨i + 1, by omega, by omega, ?_⟩
        simp [htk]
      · by_cases c5 : wv ws k = (i : Int)
        · rw [if_pos (.inr c5)] at hKj
          have hpf : p i = true := by rw [hpi, hKj]; simpa using c5
          rw [hpf] at htk
          have c6 : ¬ ((i : Int) < 0) := by omega
          simp (disch := first | omega | with_unfolding_all rfl) [q0, q6, q7, q8, q25, q26, q31, q32, c6, c5]
          refine ⟨i + 1, by omega, by omega, ?_⟩
          simp [htk]
        · rw [if_neg (by omega)] at hKj
          simp (disch := first | omega | with_unfolding_all rfl) [q0, q6, q7, q8, q25, q26, q31, q32, c4, c5]
          exact ⟨j + 1, by omega, by omega, (wv ws k).toNat, by omega, by rw [hm', Int.toNat_of_nonneg (by omega)]; exact hKj, by omega⟩
    · have : j = ws.length := by omega
      subst this
      simp only [Nat.sub_self, chP] at hKj
      simp (disch := first | omega | with_unfolding_all rfl) [q0, q6, q7, q8, q25, q26, q31, q32]
      by_cases c5 : k = i
      · have hpf : p i = true := by rw [hpi, hKj]; exact decide_eq_true (by omega)
        rw [hpf] at htk
        simp (disch := first | omega | with_unfolding_all rfl) [q0, q6, q7, q8, q25, q26, q31, q32, c5]
        refine ⟨i + 1, by omega, by omega, ?_⟩
        simp [htk]
      · have hpf : p i = false := by rw [hpi, hKj]; exact decide_eq_false (by omega)
        rw [hpf] at htk
        have c6 : ¬ ((k : Int) = (i : Int)) := by omega
        simp (disch := first | omega | with_unfolding_all rfl) [q0, q6, q7, q8, q25, q26, q31, q32, c6]
        refine ⟨i + 1, by omega, by omega, ?_⟩
        simp [htk]
  · have hin : i = ws.length := by omega
    subst hin
    simp (disch := first | omega | with_unfolding_all rfl) [g0, g6, g25, g26, hlt, hLL]
theorem refRing_ok {nl : Nl} (ws : List Int) (h : ws.length ≤ 100000) : R tb 32 [lst nl ws] = some (ringV pR ws) := by
  have hw := fun (h : okW ws = true) (i : Nat) => okW_rg (i := i) h
  refine R_of_G (F := pf32) rfl rfl rfl ?_
  simp (disch := first | omega | with_unfolding_all rfl) [pf32, env0_eq]
  refine G_scanC [0, 9, 10] 11 (badW ws) ws.length 0 (by simp) (Nat.zero_le _) ?_
  rintro i e - hi hz hk g11
  simp at hk
  obtain ⟨g0, g9, g10⟩ := hk
  simp (disch := first | omega | with_unfolding_all rfl) [g0, g9, g10, g11]
  refine G_brd (fun c => ?_) (fun c => ?_)
  · simp (disch := first | omega | with_unfolding_all rfl) [g0, g9, g10, g11, c, wv_get]
    cases hb : badW ws i
    · have hb' := hb
      simp only [badW, Bool.or_eq_false_iff, decide_eq_false_iff_not] at hb'
      have b1 : ¬ wv ws i < -1 := hb'.1
      have b2 : ¬ (ws.length : Int) ≤ wv ws i := hb'.2
      simp (disch := first | omega | with_unfolding_all rfl) [g0, g9, g10, g11, b1, b2, hb, c]
    · have hv : okW ws = false := by
        rw [okW, anyN_t (Nat.zero_le i) (by omega) hb]; rfl
      have hb' := hb
      simp only [badW, Bool.or_eq_true, decide_eq_true_eq] at hb'
      by_cases b1 : wv ws i < -1
      · simp (disch := first | omega | with_unfolding_all rfl) [b1, ringV, hv]
      · have b2 : (ws.length : Int) ≤ wv ws i := by omega
        simp (disch := first | omega | with_unfolding_all rfl) [b1, b2, ringV, hv]
  have hv : okW ws = true := by rw [okW, anyN_cut hz (by omega)]; rfl
  have hw := hw hv
  have hrv : ringV pR ws = .tup [lst .any (rl (pR ws) ws.length), .int .i64 0] := by rw [ringV, if_pos hv]
  rw [hrv]
  clear g9 g10 g11 hz hrv
  simp (disch := first | omega | with_unfolding_all rfl) [g0, c]
  generalize hp : pR ws = p
  refine G_loop (fun i e h => i ≤ ws.length ∧ h = [bk 3 (rl p i).length (rl p i)] ∧ get e 0 = lst nl ws ∧ get e 6 = mls Int 0 (rl p i).length (rl p i).length ∧ get e 25 = .int .i64 (ws.length : Int) ∧ get e 26 = .int .i64 (i : Int)) (fun i => ws.length - i) (a₀ := 0) ?_ ?_
  · simp (disch := first | omega | with_unfolding_all rfl) [g0, rl]
  clear hi c g0 i e
  rintro i e hh ⟨hi, rfl, g0, g6, g25, g26⟩
  have hL := rl_len p i
  have htk := rl_succ p i
  generalize hLL : rl p i = L at *
  simp (disch := first | omega | with_unfolding_all rfl) [g0, g6, g25, g26]
  refine G_brd (fun hlt => ?_) (fun hlt => ?_)
  · have hlt' : i < ws.length := by omega
    simp (disch := first | omega | with_unfolding_all rfl) [g0, g6, g25, g26, hlt]
    obtain ⟨K, hK⟩ : ∃ K, K = chR ws i ws.length (wv ws i) := ⟨_, rfl⟩
    have hri := hw i hlt'
    simp (disch := first | omega | with_unfolding_all rfl) [g0, g6, g25, g26, hlt, wv_get]
    refine G_loopK [0, 6, 7, 25, 26] (fun (a : Nat × Int) e' h' => a.1 ≤ ws.length ∧ (-1 ≤ a.2 ∧ a.2 < ws.length) ∧ K = chR ws i (ws.length - a.1) a.2 ∧ h' = [bk 3 L.length L] ∧ get e' 34 = .int .i64 (ws.length : Int) ∧ get e' 35 = .int .i64 (a.1 : Int) ∧ get e' 8 = .int .i64 a.2) (fun a => ws.length - a.1) (a₀ := (0, wv ws i)) ?_ ?_
    · simp (disch := first | omega | with_unfolding_all rfl) [hK]
      omega
    rintro ⟨j, k⟩ e2 h2 hk2 ⟨hj, hkl, hKj, rfl, q31, q32, q8⟩
    dsimp only at hj hkl hKj q32 q8
    simp [g0, g6, g25, g26] at hk2
    obtain ⟨q0, q6, q7, q25, q26⟩ := hk2
    have hpi : p i = decide (K = (i : Int)) := by rw [← hp, pR, hK]
    simp (disch := first | omega | with_unfolding_all rfl) [q0, q6, q7, q8, q25, q26, q31, q32]
    refine G_brd (fun c3 => ?_) (fun c3 => ?_)
    · obtain ⟨m, hm⟩ : ∃ m, ws.length - j = m + 1 := ⟨ws.length - j - 1, by omega⟩
      rw [hm, chR] at hKj
      have hm' : ws.length - (j + 1) = m := by omega
      simp (disch := first | omega | with_unfolding_all rfl) [q0, q6, q7, q8, q25, q26, q31, q32, c3]
      by_cases c4 : k < 0
      · rw [if_pos (.inl c4)] at hKj
        have c5 : ¬ k = (i : Int) := by omega
        have hpf : p i = false := by rw [hpi, hKj]; exact decide_eq_false c5
        rw [hpf] at htk
        simp (disch := first | omega | with_unfolding_all rfl) [q0, q6, q7, q8, q25, q26, q31, q32, c4, c5]
        refine ⟨i + 1, by omega, by omega, ?_⟩
        simp [htk]
      · by_cases c5 : k = (i : Int)
        · rw [if_pos (.inr c5)] at hKj
          have hpf : p i = true := by rw [hpi, hKj]; exact decide_eq_true c5
          rw [hpf] at htk
          have c6 : ¬ ((i : Int) < 0) := by omega
          simp (disch := first | omega | with_unfolding_all rfl) [q0, q6, q7, q8, q25, q26, q31, q32, c6, c5]
          refine ⟨i + 1, by omega, by omega, ?_⟩
          simp [htk]
        · rw [if_neg (by omega)] at hKj
          obtain ⟨k', rfl⟩ : ∃ k' : Nat, k = k' := ⟨k.toNat, by omega⟩
          rw [Int.toNat_natCast] at hKj
          have hr := hw k' (by omega)
          simp (disch := first | omega | with_unfolding_all rfl) [q0, q6, q7, q8, q25, q26, q31, q32, c4, c5, wv_get]
          exact ⟨j + 1, by omega, by omega, wv ws k', by omega, by rw [hm']; exact hKj, by omega, rfl⟩
    · have : j = ws.length := by omega
      subst this
      simp only [Nat.sub_self, chR] at hKj
      simp (disch := first | omega | with_unfolding_all rfl) [q0, q6, q7, q8, q25, q26, q31, q32]
      by_cases c5 : k = (i : Int)
      · have hpf : p i = true := by rw [hpi, hKj]; exact decide_eq_true (by omega)
        rw [hpf] at htk
        simp (disch := first | omega | with_unfolding_all rfl) [q0, q6, q7, q8, q25, q26, q31, q32, c5]
        refine ⟨i + 1, by omega, by omega, ?_⟩
        simp [htk]
      · have hpf : p i = false := by rw [hpi, hKj]; exact decide_eq_false (by omega)
        rw [hpf] at htk
        simp (disch := first | omega | with_unfolding_all rfl) [q0, q6, q7, q8, q25, q26, q31, q32, c5]
        refine ⟨i + 1, by omega, by omega, ?_⟩
        simp [htk]
  · have hin : i = ws.length := by omega
    subst hin
    simp (disch := first | omega | with_unfolding_all rfl) [g0, g6, g25, g26, hlt, hLL]
end Go.Proofs.YtiaeckidlmoohaaGreat
