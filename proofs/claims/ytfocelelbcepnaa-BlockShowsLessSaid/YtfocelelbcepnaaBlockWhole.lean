/- Blocks: each piece that lies is in just one block. -/
import Derived.Test.YtfocelelbcepnaaBlockLaw1
set_option linter.unusedVariables false
set_option linter.unusedSimpArgs false
set_option maxHeartbeats 8000000
set_option maxRecDepth 20000
namespace Go.Proofs.Ytfocelelbcepnaa
open Go.Proofs.Ytfocelelbcepnaa.PM

theorem addP_new {pts : List Pt} {i n : Int} (h0 : ¬ n < 0) (hi : n = i) : addP pts i n = pts ++ [⟨n, [i]⟩] := by rw [addP, if_neg h0, if_pos hi]
def pcs (of : List Int) (k : Nat) (n : Int) : List Nat := (List.range k).filter fun i => decide (of.getD i 0 = n)
theorem pcs_succ (of : List Int) (k : Nat) (n : Int) : pcs of (k + 1) n = pcs of k n ++ if of.getD k 0 = n then [k] else [] := by
  unfold pcs
  rw [List.range_succ, List.filter_append]
  congr 1
  by_cases h : of.getD k 0 = n
  · rw [if_pos h, List.filter_cons, if_pos (by simpa using h)]; rfl
  · rw [if_neg h, List.filter_cons, if_neg (by simpa using h)]; rfl
theorem prt8_nn {of : List Int} (h : Nm of) {k : Nat} (hk : k ≤ of.length) {p : Pt} (hp : p ∈ prt8 of k) : ∃ j : Nat, j < k ∧ of.getD j 0 = (j : Int) ∧ p.n = (j : Int) := ((prt8_ok h k hk).2 p.n).1 ⟨p, hp, rfl⟩
theorem prt8_pcs {of : List Int} (h : Nm of) : ∀ k, k ≤ of.length → ∀ p ∈ prt8 of k, p.p = ic (pcs of k p.n)
  | 0, _, p, hp => by simp [prt8] at hp
  | k + 1, hk, p, hp => by
    have ih := prt8_pcs h k (by omega)
    obtain ⟨hA, hM⟩ := prt8_ok h k (by omega)
    rw [prt8_succ] at hp
    rw [pcs_succ]
    obtain ⟨n, hn⟩ : ∃ n, n = of.getD k 0 := ⟨_, rfl⟩
    rw [← hn] at hp ⊢
    by_cases h0 : n < 0
    · rw [addP_neg _ _ _ h0] at hp
      obtain ⟨j, _, _, e⟩ := prt8_nn h (by omega) hp
      rw [if_neg (by omega), List.append_nil]
      exact ih p hp
    by_cases h1 : n = (k : Int)
    · rw [addP_new h0 h1, List.mem_append, List.mem_singleton] at hp
      rcases hp with hp | rfl
      · obtain ⟨j, _, _, e⟩ := prt8_nn h (by omega) hp
        rw [if_neg (by omega), List.append_nil]
        exact ih p hp
      · dsimp only
        rw [if_pos rfl]
        have : pcs of k n = [] := by
          unfold pcs
          rw [List.filter_eq_nil_iff]
          intro i hi
          rw [List.mem_range] at hi
          simp only [decide_eq_true_eq]
          intro q
          rcases h.nm i (by omega) with c | ⟨m, c1, c2, _⟩
          · omega
          · omega
        rw [this]; rfl
    · rw [addP, if_neg h0, if_neg h1, List.mem_map] at hp
      obtain ⟨q, hq, rfl⟩ := hp
      by_cases e : q.n = n
      · rw [if_pos e]
        dsimp only
        rw [if_pos e.symm, ih q hq, ← ic_app]
      · rw [if_neg e, if_neg (fun c => e c.symm), List.append_nil]
        exact ih q hq
def len (ps : List Pt) : Nat := (ps.map fun p => p.p.length).sum
theorem len_old : ∀ {pts : List Pt} {i n : Int}, Asc pts → (∃ p ∈ pts, p.n = n) → len (pts.map fun p => if p.n = n then Pt.mk p.n (p.p ++ [i]) else p) = len pts + 1
  | [], i, n, _, ⟨p, hp, _⟩ => by simp at hp
  | q :: pts, i, n, hA, ⟨p, hp, e⟩ => by
    simp only [Asc, List.map_cons, List.pairwise_cons] at hA
    by_cases c : q.n = n
    · have : (pts.map fun p => if p.n = n then Pt.mk p.n (p.p ++ [i]) else p) = pts := by
        conv => rhs; rw [← List.map_id pts]
        refine List.map_congr_left fun r hr => ?_
        have := hA.1 r.n (List.mem_map_of_mem hr)
        rw [if_neg (by omega)]; rfl
      rw [List.map_cons, this, if_pos c]
      simp [len]; omega
    · rw [List.mem_cons] at hp
      have hp2 : p ∈ pts := hp.resolve_left fun x => c (by rw [← x]; exact e)
      have := len_old (i := i) (n := n) (pts := pts) hA.2 ⟨p, hp2, e⟩
      rw [List.map_cons, if_neg c]
      simp [len] at this ⊢; omega
theorem prt8_sum {of : List Int} (h : Nm of) : ∀ k, k ≤ of.length → len (prt8 of k) = (List.range k).countP fun i => decide (0 ≤ of.getD i 0)
  | 0, _ => rfl
  | k + 1, hk => by
    have ih := prt8_sum h k (by omega)
    obtain ⟨hA, hM⟩ := prt8_ok h k (by omega)
    rw [prt8_succ, List.range_succ, List.countP_append, ← ih]
    obtain ⟨n, hn⟩ : ∃ n, n = of.getD k 0 := ⟨_, rfl⟩
    have hc : List.countP (fun i => decide (0 ≤ of.getD i 0)) [k] = if 0 ≤ n then 1 else 0 := by
      rw [List.countP_cons, List.countP_nil, ← hn]; simp
    rw [hc, ← hn]
    by_cases h0 : n < 0
    · rw [addP_neg _ _ _ h0, if_neg (by omega)]; rfl
    rw [if_pos (by omega)]
    by_cases h1 : n = (k : Int)
    · rw [addP_new h0 h1]; simp [len]
    · rw [addP, if_neg h0, if_neg h1]
      refine len_old hA ((hM n).2 ?_)
      obtain ⟨m, c1, c2, c3⟩ := (h.nm k (by omega)).resolve_left (by rw [← hn]; exact h0)
      rw [← hn] at c1
      exact ⟨m, by omega, c3, c1⟩
/-! ### What the law asks -/
theorem pcs_sorted (of : List Int) (k : Nat) (n : Int) : (pcs of k n).Pairwise (· < ·) := List.Pairwise.filter _ List.pairwise_lt_range
structure Okp (of : List Int) (ps : List Pt) : Prop where
  asc : ∀ i (h : i + 1 < ps.length), ps[i].n < ps[i + 1].n
  ne : ∀ p ∈ ps, ∃ h : 0 < p.p.length, p.p[0] = p.n
  pc : ∀ p ∈ ps, ∀ k (h : k < p.p.length), ∃ q : Nat, p.p[k] = (q : Int) ∧ q < of.length ∧ of.getD q 0 = p.n ∧ 0 ≤ p.n
  up : ∀ p ∈ ps, ∀ k (h : k + 1 < p.p.length), p.p[k] < p.p[k + 1]
theorem okp_of {of : List Int} (h : Nm of) : Okp of (prt8 of of.length) := by
  obtain ⟨hA, hM⟩ := prt8_ok h of.length (Nat.le_refl _)
  have hP := prt8_pcs h of.length (Nat.le_refl _)
  refine ⟨fun i hi => ?_, fun p hp => ?_, fun p hp k hk => ?_, fun p hp k hk => ?_⟩
  · unfold Asc at hA
    rw [List.pairwise_iff_getElem] at hA
    have := hA i (i + 1) (by simp; omega) (by simpa using hi) (by omega)
    simpa using this
  · obtain ⟨j, hj, hjj, e⟩ := prt8_nn h (Nat.le_refl _) hp
    have hm : j ∈ pcs of of.length p.n := by
      unfold pcs
      rw [List.mem_filter, List.mem_range]
      exact ⟨hj, by simp only [decide_eq_true_eq]; omega⟩
    have hl : 0 < (pcs of of.length p.n).length := List.length_pos_of_mem hm
    have hpp := hP p hp
    refine ⟨by rw [hpp, ic_len]; exact hl, ?_⟩
    have e1 : p.p[0]? = some (((pcs of of.length p.n)[0] : Nat) : Int) := by rw [hpp]; simp [ic, List.getElem?_eq_getElem hl]
    rw [List.getElem?_eq_getElem (by rw [hpp, ic_len]; exact hl), Option.some.injEq] at e1
    rw [e1]
    obtain ⟨z, hz, ez⟩ := List.getElem_of_mem hm
    have h0 : (pcs of of.length p.n)[0] ∈ pcs of of.length p.n := List.getElem_mem hl
    have hle : (pcs of of.length p.n)[0] ≤ j := by
      have hs := pcs_sorted of of.length p.n
      rw [List.pairwise_iff_getElem] at hs
      by_cases c : z = 0
      · subst c; omega
      · have := hs 0 z hl hz (by omega); omega
    have hge : j ≤ (pcs of of.length p.n)[0] := by
      obtain ⟨w, hw⟩ : ∃ w, w = (pcs of of.length p.n)[0] := ⟨_, rfl⟩
      rw [← hw] at h0 ⊢
      unfold pcs at h0
      rw [List.mem_filter, List.mem_range, decide_eq_true_eq] at h0
      rcases h.nm w h0.1 with c | ⟨m, c1, c2, _⟩
      · omega
      · omega
    omega
  · have hpp := hP p hp
    have hk2 : k < (pcs of of.length p.n).length := by rw [hpp, ic_len] at hk; exact hk
    have e1 : p.p[k]? = some (((pcs of of.length p.n)[k] : Nat) : Int) := by rw [hpp]; simp [ic, hk2]
    rw [List.getElem?_eq_getElem hk, Option.some.injEq] at e1
    have h0 : (pcs of of.length p.n)[k] ∈ pcs of of.length p.n := List.getElem_mem hk2
    unfold pcs at h0
    rw [List.mem_filter, List.mem_range, decide_eq_true_eq] at h0
    obtain ⟨j, _, _, e⟩ := prt8_nn h (Nat.le_refl _) hp
    exact ⟨_, e1, h0.1, h0.2, by omega⟩
  · have hpp := hP p hp
    have hk2 : k + 1 < (pcs of of.length p.n).length := by rw [hpp, ic_len] at hk; exact hk
    have hk1 : k < (pcs of of.length p.n).length := by omega
    have e1 : p.p[k]? = some (((pcs of of.length p.n)[k] : Nat) : Int) := by rw [hpp]; simp [ic, hk1]
    have e2 : p.p[k + 1]? = some (((pcs of of.length p.n)[k + 1] : Nat) : Int) := by rw [hpp]; simp [ic, hk2]
    rw [List.getElem?_eq_getElem (by omega), Option.some.injEq] at e1
    rw [List.getElem?_eq_getElem hk, Option.some.injEq] at e2
    have hs := pcs_sorted of of.length p.n
    rw [List.pairwise_iff_getElem] at hs
    have := hs k (k + 1) hk1 hk2 (by omega)
    omega
/-! ### How many lie -/
def lie8 (r : Rl) (i : Nat) : Bool := lie r ((i : Int) / 8) ((i : Int) % 8)
def cntL (r : Rl) (k : Nat) : Nat := (List.range k).countP fun i => lie8 r i
theorem cntL_succ (r : Rl) (k : Nat) : cntL r (k + 1) = cntL r k + if lie8 r k = true then 1 else 0 := by
  unfold cntL
  rw [List.range_succ, List.countP_append, List.countP_cons, List.countP_nil]
  cases lie8 r k <;> simp
theorem len_blks {r : Rl} {ls : List Sg} (h : valErr r ls = 0) : len (blks r ls) = cntL r (8 * r.s.length) := by
  have v := vd_of h
  have hn := nums_is v
  have hl := num_len v
  rw [blks, prt8_sum (nums_nm v.g hn) _ (Nat.le_refl _), hl, cntL]
  refine List.countP_congr fun i hi => ?_
  rw [List.mem_range] at hi
  rw [decide_eq_true_eq]
  unfold lie8
  cases c : lie r ((i : Int) / 8) ((i : Int) % 8)
  · have := hn.off i (by omega) c
    rw [List.getD_eq_getElem?_getD, this]; simp
  · obtain ⟨m, h1, _⟩ := hn.on i (by omega) c
    rw [List.getD_eq_getElem?_getD, h1]; simp
theorem cntL_gap (r : Rl) (t : Nat) : cntL r (8 * (t + 1)) = cntL r (8 * t + 6) := by
  have g : ∀ k, 6 ≤ k % 8 → lie8 r k = false := fun k hk => by
    unfold lie8
    cases c : lie r ((k : Int) / 8) ((k : Int) % 8)
    · rfl
    · have := lie_lt c; omega
  rw [show 8 * (t + 1) = 8 * t + 6 + 1 + 1 by omega, cntL_succ, cntL_succ, g _ (by omega), g _ (by omega)]
  simp
theorem len_take (ps : List Pt) (i : Nat) (h : i < ps.length) : len (ps.take (i + 1)) = len (ps.take i) + ps[i].p.length := by
  unfold len
  rw [List.take_add_one, List.getElem?_eq_getElem h]
  simp only [Option.toList_some, List.map_append, List.sum_append_nat, List.map_cons, List.map_nil, List.sum_cons, List.sum_nil, Nat.add_zero]
theorem len_le (ps : List Pt) (i : Nat) : len (ps.take i) ≤ len ps := by
  have : len ps = len (ps.take i) + len (ps.drop i) := by
    unfold len
    rw [← List.sum_append_nat, ← List.map_append, List.take_append_drop]
  omega
theorem cntL_le (r : Rl) : ∀ k, cntL r k ≤ k := fun k => by
  have := List.countP_le_length (l := List.range k) (p := fun i => lie8 r i)
  rw [List.length_range] at this
  exact this
def W1 (a : List Pt) (i : Nat) (v : PV) : Prop := v = .int .i64 (len (a.take i) : Int)
def W2 (a : List Pt) (i k : Nat) (v : PV) : Prop := v = .int .i64 ((len (a.take i) + k : Nat) : Int)
theorem law6_ok (r : Rl) (nl : Nl) (ls : List Sg) : R tb 6 [vR r, lst nl ls] = some (.bool true) := by
  have h16 := far_ok r nl ls
  refine R_of_G (F := pf6) rfl rfl rfl ?_
  cases hf : farB r ls
  case true => simp (disch := first | omega | with_unfolding_all rfl) [pf6, env0_eq, h16, hf, known_ok]
  obtain ⟨f1, f2, f3⟩ := not_far hf
  by_cases h150 : (150 : Int) < r.s.length
  · simp (disch := first | omega | with_unfolding_all rfl) [pf6, env0_eq, h16, hf, h150, known_ok]
  have h21 := blocks_ok r nl ls (by omega) (by omega)
  by_cases h : valErr r ls = 0
  case neg =>
    rw [if_neg h] at h21
    simp (disch := first | omega | with_unfolding_all rfl) [pf6, env0_eq, h16, hf, h150, h21, h, known_ok]
  have h0 := h
  rw [if_pos h] at h21
  have v := vd_of h
  have hO := okp_of (nums_nm v.g (nums_is v))
  have hle := blks_le (by omega) h
  have hlb := len_blks h
  have hcl := cntL_le r (8 * r.s.length)
  have hnl := num_len v
  have hOk := fun t p => of_ok r nl ls t p (by omega) (by omega)
  rw [show prt8 (numL r ls) (numL r ls).length = blks r ls from rfl] at hO
  obtain ⟨a, ha⟩ : ∃ a, a = blks r ls := ⟨_, rfl⟩
  rw [← ha] at h21 hO hle hlb
  obtain ⟨hla, hlp⟩ := hle
  simp (disch := first | omega | with_unfolding_all rfl) [pf6, env0_eq, h16, hf, h150, h21]
  refine G_loopK [1, 2, 5] (fun (i : Nat) e h => i ≤ a.length ∧ get e 8 = .int .i64 (i : Int) ∧ h = [] ∧ W1 a i (get e 7)) (fun i => a.length - i) (a₀ := 0) ⟨by omega, by simp, rfl, rfl⟩ ?_
  rintro i e h hk ⟨hi, g8, rfl, g7⟩
  simp at hk
  simp (disch := first | omega | with_unfolding_all rfl) [hk, g8]
  refine G_brd (fun c => ?_) (fun c => ?_)
  · have hin : i < a.length := by omega
    obtain ⟨x, hx⟩ : ∃ x, x = a[i] := ⟨_, rfl⟩
    have hxm : x ∈ a := by rw [hx]; exact List.getElem_mem hin
    obtain ⟨x0, hx0⟩ := hO.ne x hxm
    have hxl := hlp x hxm
    have hx0' : ¬ x.p.length = 0 := by omega
    have hlt := len_take a i hin
    have hll := len_le a (i + 1)
    rw [← hx] at hlt
    have hup := hO.up x hxm
    have hpc := hO.pc x hxm
    have ho : ∀ t p : Int, R tb 24 [.agg [.int .i64 r.w, .int .i64 r.h, lst r.n1 r.s, lst r.n2 r.d], lst nl ls, .int .i64 t, .int .i64 p] = some (ofV r ls t p) := hOk
    have hof : ∀ q : Nat, q < (numL r ls).length → (numL r ls).getD q 0 = x.n → 0 ≤ x.n → ofV r ls ((q : Int) / 8) ((q : Int) % 8) = .tup [.int .i64 x.n, .int .i64 0] := fun q hq hqn hx => by
      have hl : lie r ((q : Int) / 8) ((q : Int) % 8) = true := by
        cases c : lie r ((q : Int) / 8) ((q : Int) % 8)
        · have := (nums_is v).off q hq c
          rw [List.getD_eq_getElem?_getD, this] at hqn
          simp at hqn; omega
        · rfl
      have e8 : (8 * ((q : Int) / 8) + (q : Int) % 8).toNat = q := by omega
      rw [ofV, if_pos h0, if_pos hl, e8, hqn]
    by_cases i0 : 0 < i
    case' pos =>
      have him : i - 1 < a.length := by omega
      have hci : ((i : Int) - 1) = ((i - 1 : Nat) : Int) := by omega
      have hasc := hO.asc (i - 1) (by omega)
      obtain ⟨y, hy⟩ : ∃ y, y = a[i - 1] := ⟨_, rfl⟩
      have hy2 : a[i - 1 + 1]'(by omega) = x := by
        have q : i - 1 + 1 = i := by omega
        simp only [q]; exact hx.symm
      rw [← hy, hy2] at hasc
      have hasc' : ¬ x.n ≤ y.n := by omega
      simp (disch := first | omega | with_unfolding_all rfl) [hk, g8, c, ← hx, hx0', hx0, i0, hci, ← hy, hasc']
    case' neg => simp (disch := first | omega | with_unfolding_all rfl) [hk, g8, c, ← hx, hx0', hx0, i0]
    all_goals
      refine G_loopK [1, 2, 5, 8] (fun (k : Nat) e h => k ≤ x.p.length ∧ get e 9 = .int .i64 (k : Int) ∧ h = [] ∧ W2 a i k (get e 7)) (fun k => x.p.length - k) (a₀ := 0) ⟨by omega, by simp, rfl, g7⟩ ?_
      rintro k e' h' hk' ⟨hki, g9, rfl, g7'⟩
      simp at hk'
      simp (disch := first | omega | with_unfolding_all rfl) [hk', g9, ← hx]
      refine G_brd (fun d => ?_) (fun d => ?_)
      · have hkl : k < x.p.length := by omega
        obtain ⟨q, e1, e2, e3, e4⟩ := hpc k hkl
        have ho1 := ho ((q : Int) / 8) ((q : Int) % 8)
        rw [hof q e2 e3 e4] at ho1
        have q8 : (q : Int).tdiv 8 = (q : Int) / 8 := rfl
        have m8 : (q : Int).tmod 8 = (q : Int) % 8 := rfl
        have e5 : ∀ z, x.p[k]'z = (q : Int) := fun _ => e1
        have w7 : get e' 7 = .int .i64 ((len (a.take i) : Int) + k) := by rw [g7']; push_cast; rfl
        have nx : W2 a i (k + 1) (.int .i64 ((len (a.take i) : Int) + k + 1)) := by unfold W2; push_cast; rw [Int.add_assoc]
        by_cases k0 : 0 < k
        · have hkm : k - 1 < x.p.length := by omega
          have hci : ((k : Int) - 1) = ((k - 1 : Nat) : Int) := by omega
          have hu := hup (k - 1) (by omega)
          obtain ⟨y, hy⟩ : ∃ y, y = x.p[k - 1] := ⟨_, rfl⟩
          have hy2 : x.p[k - 1 + 1]'(by omega) = (q : Int) := by
            have q : k - 1 + 1 = k := by omega
            simp only [q]; exact e1
          rw [← hy, hy2] at hu
          have hu' : ¬ (q : Int) ≤ y := by omega
          simp (disch := first | omega | with_unfolding_all rfl) [hk', g9, d, ← hx, e5, q8, m8, ho1, k0, hci, ← hy, hu', w7]
          exact ⟨k + 1, by omega, by omega, by omega, nx⟩
        · simp (disch := first | omega | with_unfolding_all rfl) [hk', g9, d, ← hx, e5, q8, m8, ho1, k0, w7]
          exact ⟨k + 1, by omega, by omega, by omega, nx⟩
      · have hkl : k = x.p.length := by omega
        subst hkl
        simp (disch := first | omega | with_unfolding_all rfl) [hk', g9, d]
        refine ⟨i + 1, by omega, by omega, by omega, ?_⟩
        unfold W1; unfold W2 at g7'
        rw [g7', hlt]
  · have hia : i = a.length := by omega
    have g7' : get e 7 = .int .i64 (len a : Int) := by
      have := g7; unfold W1 at this; rw [this, hia, List.take_length]
    simp (disch := first | omega | with_unfolding_all rfl) [hk, g8, c, g7']
    refine G_loopK [2, 7] (fun (t : Nat) e h => t ≤ r.s.length ∧ get e 14 = .int .i64 (t : Int) ∧ h = [] ∧ get e 13 = .int .i64 (cntL r (8 * t) : Int)) (fun t => r.s.length - t) (a₀ := 0) ⟨by omega, by simp, rfl, rfl⟩ ?_
    rintro t e' h' hk' ⟨hti, g14, rfl, g13⟩
    simp at hk'
    simp (disch := first | omega | with_unfolding_all rfl) [hk', g14]
    refine G_brd (fun d => ?_) (fun d => ?_)
    · simp (disch := first | omega | with_unfolding_all rfl) [hk', g14, d]
      refine G_loopK [2, 7, 14] (fun (p : Nat) e h => p ≤ 6 ∧ get e 15 = .int .i64 (p : Int) ∧ h = [] ∧ get e 13 = .int .i64 (cntL r (8 * t + p) : Int)) (fun p => 6 - p) (a₀ := 0) ⟨by omega, by simp, rfl, by simp [g13]⟩ ?_
      rintro p e2 h2 hk2 ⟨hp, g15, rfl, g13'⟩
      simp at hk2
      have hcl2 := cntL_le r (8 * t + p)
      simp (disch := first | omega | with_unfolding_all rfl) [hk2, g15]
      refine G_brd (fun d2 => ?_) (fun d2 => ?_)
      · have l25 := refLies_ok v.g (t : Int) (p : Int)
        simp only [vR] at l25
        have hs := cntL_succ r (8 * t + p)
        have hl8 : lie8 r (8 * t + p) = lie r t p := by
          unfold lie8
          congr 1 <;> omega
        rw [hl8] at hs
        simp (disch := first | omega | with_unfolding_all rfl) [hk2, g15, d2, l25]
        cases c3 : lie r t p
        · rw [c3] at hs
          simp (disch := first | omega | with_unfolding_all rfl) [hk2, g15, g13']
          refine ⟨p + 1, by omega, by omega, by omega, ?_⟩
          rw [← Nat.add_assoc, hs]; simp
        · rw [c3] at hs
          simp (disch := first | omega | with_unfolding_all rfl) [hk2, g15, g13']
          refine ⟨p + 1, by omega, by omega, by omega, ?_⟩
          rw [← Nat.add_assoc, hs]; simp
      · have hp6 : p = 6 := by omega
        subst hp6
        simp (disch := first | omega | with_unfolding_all rfl) [hk2, g15, d2, g13']
        refine ⟨t + 1, by omega, by omega, by omega, ?_⟩
        rw [cntL_gap]
    · have ht : t = r.s.length := by omega
      subst ht
      simp (disch := first | omega | with_unfolding_all rfl) [hk', g14, d, g13, hlb, known_ok]
end Go.Proofs.Ytfocelelbcepnaa
