/- Blocks: whether a train may pass. -/
import Derived.Test.YtfocelelbcepnaaBlockNext
set_option linter.unusedVariables false
set_option linter.unusedSimpArgs false
set_option maxHeartbeats 8000000
set_option maxRecDepth 20000
namespace Go.Proofs.Ytfocelelbcepnaa
open Go.Proofs.Ytfocelelbcepnaa.PM

def isSo (n : So) (x : So) : Bool := n.t == x.t && (n.p == x.p && n.o == x.o)
theorem index_ok {nl : Nl} (xs : List So) (n : So) (h : xs.length ≤ 1000) : ∃ i : Int, R tb 96 [lst nl xs, vSo n] = some (.int .i64 i) ∧ (0 ≤ i ↔ xs.any (isSo n) = true) := by
  obtain ⟨v, h1, i, rfl, h2⟩ := R_ex (T := tb) (f := 96) (F := pf96) (args := [lst nl xs, vSo n]) (Rq := fun v => ∃ i : Int, v = .int .i64 i ∧ (0 ≤ i ↔ xs.any (isSo n) = true)) rfl rfl rfl (by
    obtain ⟨a, b, c⟩ := n
    simp (disch := first | omega | with_unfolding_all rfl) [pf96, env0_eq]
    refine G_scanC [0, 3, 7] 8 (fun i => match xs[i]? with | some x => isSo ⟨a, b, c⟩ x | none => false) xs.length 0 (by simp) (Nat.zero_le _) ?_
    rintro i e - hi hz hk g8
    simp at hk
    simp (disch := first | omega | with_unfolding_all rfl) [hk, g8]
    refine G_brd (fun d => ?_) (fun d => ?_)
    · have hin : i < xs.length := by omega
      obtain ⟨x, hx⟩ : ∃ x, x = xs[i] := ⟨_, rfl⟩
      simp (disch := first | omega | with_unfolding_all rfl) [hk, g8, d, ← hx]
      cases c1 : (a == x.t && (b == x.p && c == x.o))
      · simp (disch := first | omega | with_unfolding_all rfl) [hk, g8]
        exact c1
      · simp (disch := first | omega | with_unfolding_all rfl) [hk, g8]
        exact ⟨x, by rw [hx]; exact List.getElem_mem hin, c1⟩
    · simp (disch := first | omega | with_unfolding_all rfl) [hk, g8, d]
      rintro x hx
      obtain ⟨j, hj, rfl⟩ := List.getElem_of_mem hx
      have := hz j (Nat.zero_le j) (by omega)
      simp only [List.getElem?_eq_getElem hj] at this
      exact this)
  exact ⟨i, h1, h2⟩
theorem contains_ok {nl : Nl} (xs : List So) (n : So) (h : xs.length ≤ 1000) : R tb 66 [lst nl xs, vSo n] = some (.bool (xs.any (isSo n))) := by
  obtain ⟨i, h96, hi⟩ := index_ok (nl := nl) xs n h
  obtain ⟨a, b, c⟩ := n
  refine R_of_G (F := pf66) rfl rfl rfl ?_
  have : decide (0 ≤ i) = xs.any (isSo ⟨a, b, c⟩) := by rw [Bool.eq_iff_iff, decide_eq_true_eq]; exact hi
  simp (disch := first | omega | with_unfolding_all rfl) [pf66, env0_eq, h96]
  rw [← this]
theorem containsNil_ok (n : So) : R tb 66 [.list .nil 1 [], vSo n] = some (.bool false) := by
  obtain ⟨a, b, c⟩ := n
  have h96 : R tb 96 [.list .nil 1 [], vSo ⟨a, b, c⟩] = some (.int .i64 (-1)) := by
    refine R_of_G (F := pf96) rfl rfl rfl ?_
    simp (disch := first | omega | with_unfolding_all rfl) [pf96, env0_eq]
    refine G_scanC [0, 3, 7] 8 (fun _ => false) 0 0 (by simp) (Nat.zero_le _) ?_
    rintro i e - hi hz hk g8
    simp at hk
    obtain rfl : i = 0 := by omega
    simp (disch := first | omega | with_unfolding_all rfl) [hk, g8]
  refine R_of_G (F := pf66) rfl rfl rfl ?_
  simp (disch := first | omega | with_unfolding_all rfl) [pf66, env0_eq, h96]
theorem refAt_ok {nl : Nl} {ls : List Sg} (hl : ls.length ≤ 10000) (hs : ls.Pairwise ltS) (t p o : Int) : R tb 60 [lst nl ls, .int .i64 t, .int .i64 p, .int .i64 o] = some (.int .i64 (if sgn ls t p o = true then (posS ⟨t, p, o, 0⟩ ls : Int) else -1)) := by
  have e0 : ∀ j (hj : j < ls.length), eqS ls[j] ⟨t, p, o, 0⟩ → posS ⟨t, p, o, 0⟩ ls = j := fun j hj he => by
    rcases Nat.lt_trichotomy (posS ⟨t, p, o, 0⟩ ls) j with h | h | h
    · exfalso
      have h2 := posS_ge hs (l := ⟨t, p, o, 0⟩) (j := posS ⟨t, p, o, 0⟩ ls) (by omega) (Nat.le_refl _)
      have hs' := hs
      rw [List.pairwise_iff_getElem] at hs'
      have := hs' (posS ⟨t, p, o, 0⟩ ls) j (by omega) hj h
      unfold ltS eqS at *
      dsimp only at *
      omega
    · exact h
    · exfalso
      have := posS_lt hj h
      unfold ltS eqS at *
      dsimp only at *
      omega
  refine R_of_G (F := pf60) rfl rfl rfl ?_
  simp (disch := first | omega | with_unfolding_all rfl) [pf60, env0_eq]
  refine G_scanC [0, 1, 2, 3] 9 (fun i => match ls[i]? with | some x => decide (x.t = t) && (decide (x.p = p) && decide (x.o = o)) | none => false) ls.length 0 (by simp) (Nat.zero_le _) ?_
  rintro i e - hi hz hk g9
  simp at hk
  simp (disch := first | omega | with_unfolding_all rfl) [hk, g9]
  refine G_brd (fun d => ?_) (fun d => ?_)
  · have hin : i < ls.length := by omega
    obtain ⟨x, hx⟩ : ∃ x, x = ls[i] := ⟨_, rfl⟩
    have hmem : x ∈ ls := by rw [hx]; exact List.getElem_mem hin
    by_cases c1 : x.t = t
    case neg =>
      simp (disch := first | omega | with_unfolding_all rfl) [hk, g9, d, ← hx, c1]
    by_cases c2 : x.p = p
    case neg =>
      simp (disch := first | omega | with_unfolding_all rfl) [hk, g9, d, ← hx, c1, c2]
    by_cases c3 : x.o = o
    case neg =>
      simp (disch := first | omega | with_unfolding_all rfl) [hk, g9, d, ← hx, c1, c2, c3]
    have he : eqS x ⟨t, p, o, 0⟩ := ⟨c1, c2, c3⟩
    have hsg : sgn ls t p o = true := (isAt_iff hs).2 ⟨x, hmem, he⟩
    have hp := e0 i hin (by rw [← hx]; exact he)
    simp (disch := first | omega | with_unfolding_all rfl) [hk, g9, d, ← hx, c1, c2, c3, hsg, hp]
  · have hsg : sgn ls t p o = false := by
      cases c : sgn ls t p o
      · rfl
      · obtain ⟨x, hx, he⟩ := (isAt_iff hs).1 c
        obtain ⟨j, hj, rfl⟩ := List.getElem_of_mem hx
        have := hz j (Nat.zero_le j) (by omega)
        unfold eqS at he
        simp only [List.getElem?_eq_getElem hj] at this
        simp [he.1, he.2.1, he.2.2] at this
    simp (disch := first | omega | with_unfolding_all rfl) [hk, g9, d, hsg]
/-- Whether a train may pass. -/
def goV (ls : List Sg) (s n : So) : Bool := sgn ls s.t s.p s.o || (!sgn ls n.t n.p ((s.o + 2).tmod 4) || (match ls[posS ⟨n.t, n.p, (s.o + 2).tmod 4, 0⟩ ls]? with | some x => decide (x.k = 4) | none => false))
noncomputable def mayV (r : Rl) (ls : List Sg) (s n : So) : PV := if valErr r ls = 0 then (if spErr r s = 0 then (if (nxt r s).any (isSo n) = true then .tup [.bool (goV ls s n), .int .i64 0] else .tup [.bool false, .int .i64 8]) else .tup [.bool false, .int .i64 (spErr r s)]) else .tup [.bool false, .int .i64 (valErr r ls)]
theorem nxt_len (r : Rl) (s : So) : (nxt r s).length ≤ 6 := by
  unfold nxt
  split
  · simp
  · exact nxU_len _ _ _ _
theorem val0 {r : Rl} {ls : List Sg} (h : valErr r ls = 0) : railErr r = 0 := by
  rcases railErr_cases r with q | q
  · exact q
  · simp [valErr, q] at h
theorem may_ok (r : Rl) (nl : Nl) (ls : List Sg) (s n : So) (hb : r.s.length ≤ 3000) (hl : ls.length ≤ 10000) : R tb 30 [vR r, lst nl ls, vSo s, vSo n] = some (mayV r ls s n) := by
  have h19 := validate_ok r nl ls hb hl
  obtain ⟨st, sp, so⟩ := s
  obtain ⟨nt, np, no⟩ := n
  refine R_of_G (F := pf30) rfl rfl rfl ?_
  by_cases h : valErr r ls = 0
  case neg => simp (disch := first | omega | with_unfolding_all rfl) [pf30, env0_eq, h19, h, mayV]
  have v := vd_of h
  have h65 := next_ok v.g (val0 h) hb ⟨st, sp, so⟩
  by_cases h2 : spErr r ⟨st, sp, so⟩ = 0
  case neg =>
    rw [nextV, if_neg h2] at h65
    simp (disch := first | omega | with_unfolding_all rfl) [pf30, env0_eq, h19, h, mayV, h65, h2]
  rw [nextV, if_pos h2] at h65
  obtain ⟨hh1, hh2⟩ := spErr0 h2
  have hrg := has_lt hh1
  dsimp only at hrg
  have hN : ∃ x, (nxtV r ⟨st, sp, so⟩ = x ∧ frz [] .bor 64 x = some x) ∧ R tb 66 [x, vSo ⟨nt, np, no⟩] = some (.bool ((nxt r ⟨st, sp, so⟩).any (isSo ⟨nt, np, no⟩))) := by
    rcases nxtV_cases r ⟨st, sp, so⟩ with ⟨q, q2⟩ | q
    · exact ⟨_, ⟨q, rfl⟩, by rw [q2]; exact containsNil_ok _⟩
    · exact ⟨_, ⟨q, rfl⟩, contains_ok _ _ (by have := nxt_len r ⟨st, sp, so⟩; omega)⟩
  obtain ⟨X, ⟨hX, hfx⟩, h66⟩ := hN
  rw [hX] at h65
  simp only [vSo] at h65 h66
  have h61a := at_ok (nl := nl) (l := ⟨st, sp, so, 0⟩) hl v.so
  have h61b := at_ok (nl := nl) (l := ⟨nt, np, (so + 2).tmod 4, 0⟩) hl v.so
  simp only [vS] at h61a h61b
  have hmod : IntKind.i64.wrap (so + 2) = so + 2 := wrapI (by omega) (by omega)
  cases h3 : (nxt r ⟨st, sp, so⟩).any (isSo ⟨nt, np, no⟩)
  · rw [h3] at h66
    simp (disch := first | omega | with_unfolding_all rfl) [pf30, env0_eq, h19, h, mayV, h65, h2, h66, h3, hfx, -List.any_eq_true, -List.any_eq_false]
  · rw [h3] at h66
    obtain ⟨b1, hb1⟩ : ∃ b1, b1 = isAt ⟨st, sp, so, 0⟩ ls := ⟨_, rfl⟩
    obtain ⟨b2, hb2⟩ : ∃ b2, b2 = isAt ⟨nt, np, (so + 2).tmod 4, 0⟩ ls := ⟨_, rfl⟩
    have hm : mayV r ls ⟨st, sp, so⟩ ⟨nt, np, no⟩ = .tup [.bool (goV ls ⟨st, sp, so⟩ ⟨nt, np, no⟩), .int .i64 0] := by rw [mayV, if_pos h, if_pos h2, if_pos h3]
    have hg : goV ls ⟨st, sp, so⟩ ⟨nt, np, no⟩ = (b1 || (!b2 || (match ls[posS ⟨nt, np, (so + 2).tmod 4, 0⟩ ls]? with | some x => decide (x.k = 4) | none => false))) := by rw [hb1, hb2]; rfl
    rw [hm, hg]
    obtain ⟨z, hz⟩ : ∃ z, z = posS ⟨nt, np, (so + 2).tmod 4, 0⟩ ls := ⟨_, rfl⟩
    have hzl : b2 = true → z < ls.length := fun q => by
      rw [hb2] at q
      unfold isAt at q
      rw [← hz] at q
      split at q
      · rename_i x hx; exact (List.getElem?_eq_some_iff.1 hx).1
      · cases q
    rw [← hb1] at h61a
    rw [← hb2, ← hz] at h61b
    rw [← hz]
    clear hg hm
    simp (disch := first | omega | with_unfolding_all rfl) [pf30, env0_eq, h19, h, h65, h66, hfx, h61a, h61b, hmod]
    cases b1
    · cases b2
      · simp (disch := first | omega | with_unfolding_all rfl)
      · have hz2 := hzl rfl
        obtain ⟨x, hx⟩ : ∃ x, x = ls[z] := ⟨_, rfl⟩
        simp (disch := first | omega | with_unfolding_all rfl) [← hx, List.getElem?_eq_getElem hz2]
    · simp (disch := first | omega | with_unfolding_all rfl)
theorem isSo_comm (n x : So) : isSo n x = (x.t == n.t && (x.p == n.p && x.o == n.o)) := by
  rw [Bool.eq_iff_iff]
  simp only [isSo, Bool.and_eq_true, beq_iff_eq]
  constructor
  · rintro ⟨a, b, c⟩; exact ⟨a.symm, b.symm, c.symm⟩
  · rintro ⟨a, b, c⟩; exact ⟨a.symm, b.symm, c.symm⟩
theorem any_take {α : Type} (f : α → Bool) (xs : List α) (i : Nat) (h : i < xs.length) : (xs.take (i + 1)).any f = ((xs.take i).any f || f xs[i]) := by
  rw [List.take_add_one, List.getElem?_eq_getElem h, List.any_append]
  simp only [Option.toList_some, List.any_cons, List.any_nil, Bool.or_false]
theorem refMay_ok (r : Rl) (nl : Nl) (ls : List Sg) (s n : So) (hb : r.s.length ≤ 3000) (hl : ls.length ≤ 10000) : R tb 29 [vR r, lst nl ls, vSo s, vSo n] = some (mayV r ls s n) := by
  have h18 := refValidate_ok r nl ls hb hl
  obtain ⟨st, sp, so⟩ := s
  obtain ⟨nt, np, no⟩ := n
  refine R_of_G (F := pf29) rfl rfl rfl ?_
  by_cases h : valErr r ls = 0
  case neg => simp (disch := first | omega | with_unfolding_all rfl) [pf29, env0_eq, h18, h, mayV]
  have v := vd_of h
  have h64 := refNext_ok v.g (val0 h) hb ⟨st, sp, so⟩
  by_cases h2 : spErr r ⟨st, sp, so⟩ = 0
  case neg =>
    rw [nextV, if_neg h2] at h64
    simp (disch := first | omega | with_unfolding_all rfl) [pf29, env0_eq, h18, h, mayV, h64, h2]
  rw [nextV, if_pos h2] at h64
  obtain ⟨hh1, hh2⟩ := spErr0 h2
  have hrg := has_lt hh1
  dsimp only at hrg
  have h60a := refAt_ok (nl := nl) hl v.so st sp so
  have h60b := refAt_ok (nl := nl) hl v.so nt np ((so + 2).tmod 4)
  have hmod : IntKind.i64.wrap (so + 2) = so + 2 := wrapI (by omega) (by omega)
  have hnl := nxt_len r ⟨st, sp, so⟩
  obtain ⟨N, hN⟩ : ∃ N, N = nxt r ⟨st, sp, so⟩ := ⟨_, rfl⟩
  have hm : mayV r ls ⟨st, sp, so⟩ ⟨nt, np, no⟩ = if N.any (isSo ⟨nt, np, no⟩) = true then .tup [.bool (goV ls ⟨st, sp, so⟩ ⟨nt, np, no⟩), .int .i64 0] else .tup [.bool false, .int .i64 8] := by rw [mayV, if_pos h, if_pos h2, hN]
  rw [← hN] at hnl
  obtain ⟨cN, hcN⟩ : ∃ cN, cN = N.any (isSo ⟨nt, np, no⟩) := ⟨_, rfl⟩
  rw [hm, ← hcN]
  clear hm
  have hg : goV ls ⟨st, sp, so⟩ ⟨nt, np, no⟩ = (sgn ls st sp so || (!sgn ls nt np ((so + 2).tmod 4) || (match ls[posS ⟨nt, np, (so + 2).tmod 4, 0⟩ ls]? with | some x => decide (x.k = 4) | none => false))) := rfl
  rw [hg]
  clear hg
  obtain ⟨b1, hb1⟩ : ∃ b1, b1 = sgn ls st sp so := ⟨_, rfl⟩
  obtain ⟨b2, hb2⟩ : ∃ b2, b2 = sgn ls nt np ((so + 2).tmod 4) := ⟨_, rfl⟩
  obtain ⟨z, hz⟩ : ∃ z, z = posS ⟨nt, np, (so + 2).tmod 4, 0⟩ ls := ⟨_, rfl⟩
  have hzl : b2 = true → z < ls.length := fun q => by
    rw [hb2] at q
    unfold sgn isAt at q
    rw [← hz] at q
    split at q
    · rename_i x hx; exact (List.getElem?_eq_some_iff.1 hx).1
    · cases q
  rw [← hb1] at h60a ⊢
  rw [← hb2, ← hz] at h60b
  rw [← hb2, ← hz]
  have hcase : (nxtV r ⟨st, sp, so⟩ = .list .nil 1 [] ∧ N = []) ∨ nxtV r ⟨st, sp, so⟩ = lst .any N := by rw [hN]; exact nxtV_cases _ _
  rcases hcase with ⟨q, q2⟩ | q
  · rw [q] at h64
    subst q2
    replace hcN : cN = false := hcN
    subst hcN
    simp (disch := first | omega | with_unfolding_all rfl) [pf29, env0_eq, h18, h, h64]
    refine G_scanC [1, 6, 7, 11, 13] 14 (fun _ => false) 0 0 (by simp) (Nat.zero_le _) ?_
    rintro i e - hi hz hk g14
    simp at hk
    obtain rfl : i = 0 := by omega
    simp (disch := first | omega | with_unfolding_all rfl) [hk, g14]
  · rw [q] at h64
    simp (disch := first | omega | with_unfolding_all rfl) [pf29, env0_eq, h18, h, h64]
    refine G_loopK [1, 6, 7, 11] (fun (i : Nat) e h => i ≤ N.length ∧ get e 14 = .int .i64 (i : Int) ∧ h = [] ∧ get e 13 = .bool ((N.take i).any (isSo ⟨nt, np, no⟩))) (fun i => N.length - i) (a₀ := 0) ⟨by omega, by simp, rfl, by simp⟩ ?_
    rintro i e h hk ⟨hi, g14, rfl, g13⟩
    simp at hk
    simp (disch := first | omega | with_unfolding_all rfl) [hk, g14]
    refine G_brd (fun d => ?_) (fun d => ?_)
    · have hin : i < N.length := by omega
      obtain ⟨x, hx⟩ : ∃ x, x = N[i] := ⟨_, rfl⟩
      have hat := any_take (isSo ⟨nt, np, no⟩) N i hin
      rw [← hx] at hat
      obtain ⟨c1, hc1⟩ : ∃ c1, c1 = (N.take i).any (isSo ⟨nt, np, no⟩) := ⟨_, rfl⟩
      rw [← hc1] at g13 hat
      have hcm := isSo_comm ⟨nt, np, no⟩ x
      dsimp only at hcm
      cases c1
      · simp (disch := first | omega | with_unfolding_all rfl) [hk, g14, g13, d, ← hx]
        refine ⟨i + 1, by omega, by omega, by omega, ?_⟩
        rw [hat, hcm]; rfl
      · simp (disch := first | omega | with_unfolding_all rfl) [hk, g14, g13, d]
        refine ⟨i + 1, by omega, by omega, by omega, ?_⟩
        rw [← List.any_eq_true, hat]; rfl
    · have hin : i = N.length := by omega
      subst hin
      rw [List.take_length, ← hcN] at g13
      cases cN
      · simp (disch := first | omega | with_unfolding_all rfl) [hk, g14, g13, d]
      · cases b1
        · cases b2
          · simp (disch := first | omega | with_unfolding_all rfl) [hk, g14, g13, d, h60a, h60b, hmod]
          · have hz2 := hzl rfl
            have hz0 : ¬ (z : Int) < 0 := by omega
            obtain ⟨x, hx⟩ : ∃ x, x = ls[z] := ⟨_, rfl⟩
            simp (disch := first | omega | with_unfolding_all rfl) [hk, g14, g13, d, h60a, h60b, hmod, ← hx, List.getElem?_eq_getElem hz2, hz0]
        · have hp0 : (0 : Int) ≤ (posS ⟨st, sp, so, 0⟩ ls : Int) := by omega
          simp (disch := first | omega | with_unfolding_all rfl) [hk, g14, g13, d, h60a, hp0]
theorem mayV_tup (r : Rl) (ls : List Sg) (s n : So) : ∃ a b, mayV r ls s n = .tup [.bool a, .int .i64 b] := by
  unfold mayV
  split
  · split
    · split
      · exact ⟨_, _, rfl⟩
      · exact ⟨_, _, rfl⟩
    · exact ⟨_, _, rfl⟩
  · exact ⟨_, _, rfl⟩
theorem law8_ok (r : Rl) (nl : Nl) (ls : List Sg) (s n : So) : R tb 8 [vR r, lst nl ls, vSo s, vSo n] = some (.bool true) := by
  have h16 := far_ok r nl ls
  have h29 := refMay_ok r nl ls s n
  have h30 := may_ok r nl ls s n
  obtain ⟨st, sp, so⟩ := s
  obtain ⟨nt, np, no⟩ := n
  obtain ⟨a, b, hab⟩ := mayV_tup r ls ⟨st, sp, so⟩ ⟨nt, np, no⟩
  rw [hab] at h29 h30
  simp only [vSo] at h29 h30
  refine R_of_G (F := pf8) rfl rfl rfl ?_
  cases hf : farB r ls
  · obtain ⟨f1, f2, f3⟩ := not_far hf
    simp (disch := first | omega | with_unfolding_all rfl) [pf8, env0_eq, h16, hf, h29, h30, known_ok]
  · simp (disch := first | omega | with_unfolding_all rfl) [pf8, env0_eq, h16, hf, known_ok]
end Go.Proofs.Ytfocelelbcepnaa
