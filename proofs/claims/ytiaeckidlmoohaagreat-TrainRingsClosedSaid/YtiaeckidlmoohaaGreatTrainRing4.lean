/- Trains: rings are closed. -/
import Derived.Test.YtiaeckidlmoohaaGreatTrainRing3
set_option linter.unusedVariables false
set_option linter.unusedSimpArgs false
set_option maxHeartbeats 4000000
set_option maxRecDepth 20000
namespace Go.Proofs.YtiaeckidlmoohaaGreat
open Go.Proofs.YtiaeckidlmoohaaGreat.PM

@[simp] theorem evMks_b {e bytes : Nat} {k k' : IntKind} {l c : Int} {H : Hp} (h0 : 0 ≤ l) (h1 : l ≤ c) (h2 : (bytes : Int) * c ≤ 281474976710656) :
    evMks e 1 bytes [.bool false] (.int k l) (.int k' c) H = some (mls Bool H.length 0 l.toNat, H ++ [bk e 0 (List.replicate l.toNat false)]) := evMks_eq rfl rfl h0 h1 h2
theorem inL_of {xs : List Int} {n : Int} (h : n ∈ xs) : inL xs n = true := List.any_eq_true.2 ⟨n, h, decide_eq_true rfl⟩
theorem rl_at {ws : List Int} (hw : okW ws = true) {i : Nat} (h : i < (rl (pP ws) ws.length).length) : ∃ a : Nat, wv (rl (pP ws) ws.length) i = a ∧ a < ws.length ∧ InRing ws a := by
  have hm : wv (rl (pP ws) ws.length) i ∈ rl (pP ws) ws.length := by rw [← wv_get h]; exact List.getElem_mem h
  obtain ⟨a, h1, h2, h3⟩ := mem_rl.1 hm
  exact ⟨a, h3, h1, (pP_iff hw h1).1 h2⟩
theorem rl_lt {p : Nat → Bool} {n i j : Nat} (hij : i < j) (h : j < (rl p n).length) : wv (rl p n) i < wv (rl p n) j := by
  rw [← wv_get h, ← wv_get (by omega : i < (rl p n).length)]
  exact List.pairwise_iff_getElem.1 (rl_inc p n) i j (by omega) h hij
/-- What was met. -/
def Met (ws L : List Int) (i : Nat) (M : List Bool) : Prop := M.length = ws.length ∧ ∀ j, j < ws.length → M[j]? = some true → ∃ i', i' < i ∧ wv ws (wv L i').toNat = (j : Int)
theorem law8_ok (nl : Nl) (ws : List Int) : R tb 8 [lst nl ws] = some (.bool true) := by
  refine R_of_G (F := pf8) rfl rfl rfl ?_
  by_cases c : 1100 < (ws.length : Int)
  · simp (disch := first | omega | with_unfolding_all rfl) [pf8, env0_eq, c, known_ok]
  have h1 := ring_ok (nl := nl) ws (by omega)
  cases hv : okW ws
  · have : ringV pP ws = .tup [.list .nil 1 [], .int .i64 1] := by rw [ringV, if_neg (by simp [hv])]
    rw [this] at h1
    simp (disch := first | omega | with_unfolding_all rfl) [pf8, env0_eq, c, known_ok, h1]
  have : ringV pP ws = .tup [lst .any (rl (pP ws) ws.length), .int .i64 0] := by rw [ringV, if_pos hv]
  rw [this] at h1
  have hl := rl_len (pP ws) ws.length
  have hat := fun i => rl_at hv (i := i)
  have hlt := fun i j (h : i < j) => rl_lt (p := pP ws) (n := ws.length) h
  have hmem := fun (a : Nat) (h1 : a < ws.length) (h2 : InRing ws a) => inL_of (mem_rl.2 ⟨a, h1, (pP_iff hv h1).2 h2, rfl⟩)
  have hhit := hits_ok (nl := .any) (rl (pP ws) ws.length) (by omega)
  generalize rl (pP ws) ws.length = L at *
  simp (disch := first | omega | with_unfolding_all rfl) [pf8, env0_eq, c, h1]
  refine G_loop (fun i e h => i ≤ L.length ∧ (∃ M, Met ws L i M ∧ h = [bk 4 0 M]) ∧ get e 0 = lst nl ws ∧ get e 3 = lst .any L ∧ get e 5 = mls Bool 0 0 ws.length ∧ get e 28 = lst .any L ∧ get e 29 = .int .i64 (L.length : Int) ∧ get e 30 = .int .i64 (i : Int)) (fun i => L.length - i) (a₀ := 0) ?_ ?_
  · refine ⟨Nat.zero_le _, ⟨_, ⟨?_, ?_⟩, rfl⟩, ?_⟩
    · simp
    · intro j hj hm
      rw [List.getElem?_replicate] at hm
      split at hm <;> simp at hm
    · simp
  rintro i e h ⟨hi, ⟨M, ⟨hML, hM⟩, rfl⟩, g0, g3, g5, g28, g29, g30⟩
  simp (disch := first | omega | with_unfolding_all rfl) [g0, g3, g5, g28, g29, g30]
  refine G_brd (fun d => ?_) (fun d => ?_)
  · obtain ⟨a, ha, han, har⟩ := hat i (by omega)
    obtain ⟨hu0, hur⟩ := ring_next hv han har
    obtain ⟨u, hu⟩ : ∃ u : Nat, wv ws a = u := ⟨(wv ws a).toNat, by omega⟩
    have hun := (okW_rg hv han).2
    rw [hu] at hun hur
    rw [Int.toNat_natCast] at hur
    have hin := hmem u (by omega) hur
    have hmu : M[u]? = some false := by
      have hlu : u < M.length := by omega
      rw [List.getElem?_eq_getElem hlu]
      cases hq : M[u] with
      | false => rfl
      | true =>
        obtain ⟨i', h2, h3⟩ := hM u (by omega) (by rw [List.getElem?_eq_getElem hlu, hq])
        obtain ⟨b, hb, hbn, hbr⟩ := hat i' (by omega)
        rw [hb, Int.toNat_natCast] at h3
        have := ring_inj hbr har (by rw [h3, hu])
        have := hlt i' i h2 (by omega)
        omega
    have hprev : ∀ i', i' < i → wv L i' < (a : Int) := fun i' h => by rw [← ha]; exact hlt i' i h (by omega)
    have hlu : u < M.length := by omega
    have hmu' : M[u] = false := by rw [List.getElem?_eq_getElem hlu] at hmu; simpa using hmu
    have k0 : ¬ ((a : Int) < 0) := by omega
    have k1 : ¬ ((ws.length : Int) ≤ (a : Int)) := by omega
    have hh := hhit (u : Int)
    rw [hin] at hh
    have fin : Met ws L (i + 1) (M.set u true) := by
      refine ⟨by rw [List.length_set]; exact hML, fun j hj hm => ?_⟩
      by_cases e1 : u = j
      · subst e1
        exact ⟨i, by omega, by rw [ha, Int.toNat_natCast, hu]⟩
      · rw [List.getElem?_set_ne e1] at hm
        obtain ⟨i', h2, h3⟩ := hM j hj hm
        exact ⟨i', by omega, h3⟩
    cases i with
    | zero =>
      simp (disch := first | omega | with_unfolding_all rfl) [g0, g3, g5, g28, g29, g30, d, wv_get, ha, hu, k0, k1, hh, hmu']
      exact ⟨1, by omega, by omega, ⟨_, fin, rfl⟩, rfl⟩
    | succ i =>
      have k2 : ¬ ((a : Int) ≤ wv L i) := by have := hprev i (by omega); omega
      have k3 : (0 : Int) < (i : Int) + 1 := by omega
      simp (disch := first | omega | with_unfolding_all rfl) [g0, g3, g5, g28, g29, g30, d, wv_get, ha, hu, k0, k1, k2, k3, hh, hmu']
      exact ⟨i + 1 + 1, by omega, by omega, ⟨_, fin, rfl⟩, by omega⟩
  · simp (disch := first | omega | with_unfolding_all rfl) [g0, g3, g5, g28, g29, g30, d, known_ok]
end Go.Proofs.YtiaeckidlmoohaaGreat
