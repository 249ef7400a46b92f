/- Several texts in one: BlockBeyond, BlockBeyond2. -/
import Derived.Test.YtfocelelbcepnaaBlockSplitA
section
set_option linter.unusedVariables false
set_option linter.unusedSimpArgs false
set_option maxHeartbeats 8000000
set_option maxRecDepth 20000
namespace Go.Proofs.Ytfocelelbcepnaa
open Go.Proofs.Ytfocelelbcepnaa.PM

theorem R_nat {T : Table} {f : Nat} {args : List PV} {r : PV} (hn : T.nat f args = some r) : R T f args = some r := by
  unfold R callP
  rw [hn]
theorem isLess_ok (x y : Int) : R tb 126 [.int .i64 x, .int .i64 y] = some (.bool (decide (x < y))) := by
  refine R_of_G (F := pf126) rfl rfl rfl ?_
  simp (disch := first | omega | with_unfolding_all rfl) [pf126, env0_eq, isNaN_ok]
/-- A list of one number, again and again, is sorted. -/
abbrev cH (g m : Nat) (n : Int) : Hp := [bk 3 g (List.replicate m n)]
theorem insSort_ok {g m : Nat} {n : Int} (hm : m ≤ 6) : RO tb 120 [mls Int 0 g m, .int .i64 0, .int .i64 m] (cH g m n) = some (.tup [], cH g m n) := by
  have hl := isLess_ok n n
  rw [decide_eq_false (by omega)] at hl
  have hrl : (List.replicate m n).length = m := by simp
  have hrg : ∀ (j : Nat) (q : j < (List.replicate m n).length), (List.replicate m n)[j] = n := fun j q => List.getElem_replicate q
  refine RO_of_G (F := pf120) rfl rfl rfl ?_
  simp (disch := first | omega | with_unfolding_all rfl) [pf120, env0_eq]
  refine G_loopK [0, 1, 2] (fun (i : Nat) e h => 1 ≤ i ∧ i ≤ m + 1 ∧ get e 6 = .int .i64 (i : Int) ∧ h = cH g m n) (fun i => m + 1 - i) (a₀ := 1) ⟨by omega, by omega, by simp, rfl⟩ ?_
  rintro i e h hk ⟨hi0, hi, g6, rfl⟩
  simp at hk
  simp (disch := first | omega | with_unfolding_all rfl) [hk, g6]
  refine G_brd (fun c => ?_) (fun c => ?_)
  · have him : i < m := by omega
    simp (disch := first | omega | with_unfolding_all rfl) [hk, g6, c]
    refine G_loopK [0, 1, 2, 6] (fun (_ : Nat) e h => get e 7 = .int .i64 (i : Int) ∧ h = cH g m n) (fun _ => 0) (a₀ := 0) ⟨by simp, rfl⟩ ?_
    rintro _ e2 h2 hk2 ⟨g7, rfl⟩
    simp at hk2
    have hci : (i : Int) - 1 = ((i - 1 : Nat) : Int) := by omega
    have hi1 : 0 < i := by omega
    simp (disch := first | omega | with_unfolding_all rfl) [hk2, g7, hi1, hci, hrg, hl]
    exact ⟨i + 1, by omega, by omega, by omega⟩
  · simp (disch := first | omega | with_unfolding_all rfl) [hk, g6, c]
theorem pdq_ok {g m : Nat} {n l : Int} (hm : m ≤ 6) : RO tb 115 [mls Int 0 g m, .int .i64 0, .int .i64 m, .int .i64 l] (cH g m n) = some (.tup [], cH g m n) := by
  have h120 := insSort_ok (g := g) (n := n) hm
  refine RO_of_G (F := pf115) rfl rfl rfl ?_
  have h12 : (m : Int) ≤ 12 := by omega
  simp (disch := first | omega | with_unfolding_all rfl) [pf115, env0_eq]
  refine G_loopK [0, 1, 2, 3] (fun (_ : Nat) e h => h = cH g m n) (fun _ => 0) (a₀ := 0) rfl ?_
  rintro _ e h hk rfl
  simp at hk
  simp (disch := first | omega | with_unfolding_all rfl) [hk, h12, h120]
theorem len64_ok {m : Nat} (hm : m ≤ 7) : R tb 130 [.int .u64 m] = some (.int .i64 (lenB m)) := by
  refine R_nat ?_
  show (if (0 : Int) ≤ m ∧ (m : Int) ≤ 7 then some (PV.int .i64 (lenB m)) else none) = _
  rw [if_pos (by omega)]
theorem sort_ok {g m : Nat} {n : Int} (hm : m ≤ 6) : RO tb 102 [mls Int 0 g m] (cH g m n) = some (.tup [], cH g m n) := by
  have h130 := len64_ok (m := m) (by omega)
  have h116 : R tb 116 [.int .u64 m] = some (.int .i64 (lenB m)) := by
    refine R_of_G (F := pf116) rfl rfl rfl ?_
    simp (disch := first | omega | with_unfolding_all rfl) [pf116, env0_eq, h130]
  have h115 := pdq_ok (g := g) (n := n) (l := lenB m) hm
  have hw : IntKind.u64.wrap (m : Int) = m := wrapu_in (by omega) (by omega)
  refine RO_of_G (F := pf102) rfl rfl rfl ?_
  simp (disch := first | omega | with_unfolding_all rfl) [pf102, env0_eq, hw, h116, h115]
/-- A list of one number, again and again, without the later ones. -/
def cX (m : Nat) (n : Int) : List PV := setCells (cl (List.replicate m n)) 1 (rep (m - 1) [.int .i64 0])
theorem cX_take {m : Nat} {n : Int} (hm : 1 ≤ m) : 1 ≤ (cX m n).length ∧ (cX m n).take 1 = [.int .i64 n] := by
  obtain ⟨k, rfl⟩ : ∃ k, m = k + 1 := ⟨m - 1, by omega⟩
  have h1 : cl (List.replicate (k + 1) n) = .int .i64 n :: cl (List.replicate k n) := rfl
  have h2 : ∀ (ys xs : List PV) (o : Nat), setCells (.int .i64 n :: xs) (o + 1) ys = .int .i64 n :: setCells xs o ys := by
    intro ys
    induction ys with
    | nil => intro xs o; rw [setCells_nil, setCells_nil]
    | cons y ys ih => intro xs o; rw [setCells_cons, setCells_cons, List.set_cons_succ, ih]
  unfold cX
  rw [h1, show (1 : Nat) = 0 + 1 from rfl, h2]
  simp
theorem compact_ok {g m : Nat} {n : Int} (hm : m ≤ 6) : ∃ H', RO tb 103 [mls Int 0 g m] (cH g m n) = some (mls Int 0 g (min m 1), H') ∧ frz H' .any 64 (mls Int 0 g (min m 1)) = some (lst .any (List.replicate (min m 1) n)) := by
  have hrl : (List.replicate m n).length = m := by simp
  have hrg : ∀ (j : Nat) (q : j < (List.replicate m n).length), (List.replicate m n)[j] = n := fun j q => List.getElem_replicate q
  by_cases h2 : m < 2
  · refine ⟨cH g m n, ?_, ?_⟩
    · have hmm : min m 1 = m := by omega
      rw [hmm]
      have h2' : (m : Int) < 2 := by omega
      refine RO_of_G (F := pf103) rfl rfl rfl ?_
      simp (disch := first | omega | with_unfolding_all rfl) [pf103, env0_eq, h2']
    · have hmm : min m 1 = m := by omega
      rw [hmm]
      exact frz_mls (xs := List.replicate m n) rfl (by simp) (.inr (by simp))
  have hmm : min m 1 = 1 := by omega
  rw [hmm]
  obtain ⟨t1, t2⟩ := cX_take (m := m) (n := n) (by omega)
  refine ⟨[⟨3, g, cX m n, none⟩], ?_, ?_⟩
  case refine_2 =>
    rw [frz_mlsC]
    simp only [List.getElem?_cons_zero, Go.Proofs.Ytfocelelbcepnaa.PM.frzB, sz_int, Nat.mul_one, Option.bind_some, true_and]
    rw [if_neg (by omega), if_pos t1, t2]
    rfl
  have h2' : ¬ (m : Int) < 2 := by omega
  have hlen : (cl (List.replicate m n)).length = m := by simp
  have hslo : evSlc 1 (mls Int 0 g m) (some (.int .i64 1)) none none = some (.msl true 0 g 1 (m - 1) 1) := by
    simp only [evSlc, mls, optIx, sz_int, if_true, Option.bind_some]
    rw [if_pos (by omega)]
    simp only [Option.bind_some]
    rw [if_pos (by omega)]
    rfl
  have hshi : ∀ H : Hp, evSlc 1 (mls Int 0 g m) none (some (.int .i64 1)) none = some (mls Int 0 g 1) := fun _ => evSlc_mls (by omega) (by omega)
  have hix : ∀ k : Nat, k < m - 1 → evIaS 1 (.msl true 0 g 1 (m - 1) 1) (.int .i64 k) = some (.mptr 0 g (1 + k * 1)) := fun k hk => by
    have h1 : ixIn (.int .i64 (k : Int)) (m - 1) = some k := by
      simp only [ixIn]
      rw [if_pos ⟨by omega, by omega⟩]
      rfl
    simp only [evIaS, h1, Option.bind_some, Option.map_some, if_true]
  have hld : ∀ j, j < m → evLd none (.mptr 0 g j) (cH g m n) = some (.int .i64 n) := fun j hj => by
    have := evLd_mep (H := cH g m n) (n := none) (b := 0) (gen := g) (j := j) (o := 0) (e := 3) (xs := List.replicate m n) rfl (by decide) (by simpa using hj)
    simp only [mep, sz_int, Nat.mul_one, Nat.add_zero] at this
    rw [this]
    simp [cutV]
  have hcg : ∀ (j : Nat) (q : j < (cl (List.replicate m n)).length), (cl (List.replicate m n))[j] = PV.int .i64 n := fun j q => by simp [cl_ints]
  have hle : evLen (.msl true 0 g 1 (m - 1) 1) = some (.int .i64 ((m - 1 : Nat) : Int)) := rfl
  have hclr : evClr 1 [.int .i64 0] (.msl true 0 g 1 (m - 1) 1) (cH g m n) = some (.tup [], [⟨3, g, cX m n, none⟩]) := by
    simp only [evClr, if_true]
    rw [if_neg (by omega)]
    simp only [List.getElem?_cons_zero]
    rw [if_pos ⟨trivial, by rw [hlen]; omega, rfl, rfl⟩]
    rfl
  refine RO_of_G (F := pf103) rfl rfl rfl ?_
  simp (disch := first | omega | with_unfolding_all rfl) [pf103, env0_eq, h2']
  refine G_loopK [0] (fun (_ : Nat) e h => get e 3 = .int .i64 1 ∧ h = cH g m n) (fun _ => 0) (a₀ := 0) ⟨by simp, rfl⟩ ?_
  rintro _ e h hk ⟨g3, rfl⟩
  simp at hk
  have hm1 : (1 : Int) < (m : Int) := by omega
  have hm1' : 1 < m := by omega
  simp (disch := first | omega | with_unfolding_all rfl) [hk, g3, hm1, hm1', hrg, hslo]
  refine G_loopK [0, 3, 4] (fun (k : Nat) e h => 1 ≤ k ∧ k ≤ m - 1 ∧ get e 5 = .int .i64 (k : Int) ∧ h = cH g m n) (fun k => m - 1 - k) (a₀ := 1) ⟨by omega, by omega, by simp, rfl⟩ ?_
  rintro k e2 h2 hk2 ⟨hk1, hkm, g5, rfl⟩
  simp at hk2
  have hlm : ((m - 1 : Nat) : Int) = (m : Int) - 1 := by omega
  simp (disch := first | omega | with_unfolding_all rfl) [hk2, g5, hle]
  refine G_brd (fun d => ?_) (fun d => ?_)
  · have hkl : k < m - 1 := by omega
    have hi1 := hix k hkl
    have hi2 := hix (k - 1) (by omega)
    have hl1 := hld (1 + k * 1) (by omega)
    have hl2 := hld (1 + (k - 1) * 1) (by omega)
    have hck : (k : Int) - 1 = ((k - 1 : Nat) : Int) := by omega
    simp (disch := first | omega | with_unfolding_all rfl) [hk2, g5, d, hck, hi1, hi2, hl1, hl2, hcg]
    exact ⟨k + 1, by omega, by omega, by omega, by omega⟩
  · simp (disch := first | omega | with_unfolding_all rfl) [hk2, g5, d, hslo, hshi [], hclr]
/-! ### The blocks of a list of spots that are all of one block -/
theorem beyondL_ok {nl : Nl} {of : List Int} {X : PV} {N : List So} {n : Int} (hX : (X = .list .nil 1 [] ∧ N = []) ∨ X = lst .any N) (hN : N.length ≤ 6) (hof : of.length ≤ 10000) (ha : ∀ x ∈ N, 0 ≤ x.t ∧ x.t ≤ 100000 ∧ 0 ≤ x.p ∧ x.p < 6 ∧ ∃ z : Nat, (z : Int) = 8 * x.t + x.p ∧ of[z]? = some n) :
    R tb 79 [lst nl of, X] = some (lst .any (List.replicate (min N.length 1) n)) := by
  have h102 := sort_ok (g := N.length) (n := n) hN
  obtain ⟨H', h103, hfz⟩ := compact_ok (g := N.length) (n := n) hN
  refine R_of_G (F := pf79) rfl rfl rfl ?_
  rcases hX with ⟨rfl, rfl⟩ | rfl
  · simp (disch := first | omega | with_unfolding_all rfl) [pf79, env0_eq]
    refine G_loopK [0, 5, 8, 9] (fun (_ : Nat) e h => get e 10 = .int .i64 0 ∧ h = [⟨3, 0, [], none⟩]) (fun _ => 0) (a₀ := 0) ⟨by simp, rfl⟩ ?_
    rintro _ e h hk ⟨g10, rfl⟩
    simp at hk
    replace h102 : RO tb 102 [mls Int 0 0 0] [⟨3, 0, [], none⟩] = some (.tup [], [⟨3, 0, [], none⟩]) := h102
    replace h103 : RO tb 103 [mls Int 0 0 0] [⟨3, 0, [], none⟩] = some (mls Int 0 0 0, H') := h103
    replace hfz : frz H' .any 64 (mls Int 0 0 0) = some (lst .any []) := hfz
    simp (disch := first | omega | with_unfolding_all rfl) [hk, g10, h102, h103, hfz, -frz_mlsC]
  simp (disch := first | omega | with_unfolding_all rfl) [pf79, env0_eq]
  refine G_loopK [0, 8, 9] (fun (i : Nat) e h => i ≤ N.length ∧ get e 10 = .int .i64 (i : Int) ∧ get e 5 = mls Int 0 i i ∧ h = cH i i n) (fun i => N.length - i) (a₀ := 0) ⟨by omega, by simp, rfl, rfl⟩ ?_
  rintro i e h hk ⟨hi, g10, g5, rfl⟩
  simp at hk
  have hrl : (List.replicate i n).length = i := by simp
  simp (disch := first | omega | with_unfolding_all rfl) [hk, g10]
  refine G_brd (fun c => ?_) (fun c => ?_)
  · have hin : i < N.length := by omega
    obtain ⟨x, hx⟩ : ∃ x, x = N[i] := ⟨_, rfl⟩
    obtain ⟨a1, a2, a3, a4, z, hz, hz2⟩ := ha x (by rw [hx]; exact List.getElem_mem hin)
    obtain ⟨hzl, hze⟩ := List.getElem?_eq_some_iff.1 hz2
    have h59 := number_ok (t := x.t) (p := x.p) (by omega) (by omega)
    rw [← hz] at h59
    have hra : List.replicate i n ++ [n] = List.replicate (i + 1) n := by rw [List.replicate_succ']
    simp (disch := first | omega | with_unfolding_all rfl) [hk, g10, g5, c, ← hx, h59, hze, hra]
    exact ⟨i + 1, by omega, by omega, by omega, rfl, rfl, rfl⟩
  · have hin : i = N.length := by omega
    subst hin
    simp (disch := first | omega | with_unfolding_all rfl) [hk, g10, g5, c, h102, h103, hfz, -frz_mlsC]
/-! ### All of one block -/
noncomputable def numAt (r : Rl) (ls : List Sg) (x : So) : Int := (numL r ls).getD (8 * x.t + x.p).toNat 0
theorem nxU_mem {r : Rl} {u : Nat} {s : Int} {Q : Nat} {x : So} (h : x ∈ nxU r u s Q) : ∃ q : Nat, q < Q ∧ x.t = u ∧ x.p = q ∧ lie r u q = true ∧ has q s = true := by
  unfold nxU at h
  rw [List.mem_filterMap] at h
  obtain ⟨q, hq, e⟩ := h
  rw [List.mem_range] at hq
  split at e
  · rename_i c
    simp only [Bool.and_eq_true] at c
    simp only [Option.some.injEq] at e
    subst e
    exact ⟨q, hq, rfl, rfl, c.1, c.2⟩
  · cases e
theorem nxU_same {r : Rl} {ls : List Sg} (v : Vd r ls) {u : Nat} {s : Int} {Q : Nat} {x y : So} (hx : x ∈ nxU r u s Q) (hy : y ∈ nxU r u s Q) : numAt r ls x = numAt r ls y := by
  obtain ⟨p, _, e1, e2, hl1, hh1⟩ := nxU_mem hx
  obtain ⟨q, _, e3, e4, hl2, hh2⟩ := nxU_mem hy
  have hp := (lie_lt hl1)
  have hq := (lie_lt hl2)
  have hn := nums_is v
  have hlen := hn.len
  unfold numAt
  rw [show (8 * x.t + x.p).toNat = 8 * u + p by omega, show (8 * y.t + y.p).toNat = 8 * u + q by omega]
  have hc : Cn (EE r ls) (8 * u + p) (8 * u + q) := by
    by_cases e : p = q
    · subst e; exact .refl _
    · have hpr := share hh1 hh2 (by omega)
      have te : ∀ a b : Nat, b < a → a < 6 → lie r u a = true → lie r u b = true → prt a b = false → EE r ls (8 * u + a) (8 * u + b) := by
        intro a b c1 c2 c3 c4 c5
        exact ⟨u, by omega, .inl ⟨a, b, by omega, c1, c2, c3, c4, c5, rfl, rfl⟩⟩
      rcases Nat.lt_or_gt_of_ne e with c | c
      · exact .one (.inr (te q p c (by omega) hl2 hl1 (by rw [prt_comm]; exact hpr)))
      · exact .one (.inl (te p q c (by omega) hl1 hl2 hpr))
  have hl8 : ∀ p : Nat, p < 6 → lie r u p = true → lie r (((8 * u + p : Nat) : Int) / 8) (((8 * u + p : Nat) : Int) % 8) = true := by
    intro p hp hl
    have e1 : ((8 * u + p : Nat) : Int) / 8 = (u : Int) := by omega
    have e2 : ((8 * u + p : Nat) : Int) % 8 = (p : Int) := by omega
    rw [e1, e2]; exact hl
  obtain ⟨m, h1, h2⟩ := hn.on (8 * u + p) (by omega) (hl8 p (by omega) hl1)
  obtain ⟨m', h3, h4⟩ := hn.on (8 * u + q) (by omega) (hl8 q (by omega) hl2)
  rw [List.getD_eq_getElem?_getD, List.getD_eq_getElem?_getD, h1, h3, (h2.of_cn hc).uniq h4]
/-- The block behind a spot. -/
noncomputable def byL (r : Rl) (ls : List Sg) (s : So) : List Int := match nxt r s with | [] => [] | x :: _ => [numAt r ls x]
theorem nxt_nxU (r : Rl) (s : So) : nxt r s = [] ∨ ∃ u : Nat, nxt r s = nxU r u ((s.o + 2).tmod 4) 6 := by
  unfold nxt
  split
  · exact .inl rfl
  · exact .inr ⟨_, rfl⟩
theorem byP_ok {r : Rl} {ls : List Sg} (v : Vd r ls) {nl : Nl} (s : So) : R tb 79 [lst nl (numL r ls), nxtV r s] = some (lst .any (byL r ls s)) := by
  have hlen := num_len v
  have hm := v.g.mul
  have hls := v.g.ls
  have hc := nxtV_cases r s
  obtain ⟨n, hn⟩ : ∃ n, n = (match nxt r s with | [] => 0 | x :: _ => numAt r ls x) := ⟨_, rfl⟩
  have hall : ∀ x ∈ nxt r s, 0 ≤ x.t ∧ x.t ≤ 100000 ∧ 0 ≤ x.p ∧ x.p < 6 ∧ ∃ z : Nat, (z : Int) = 8 * x.t + x.p ∧ (numL r ls)[z]? = some n := by
    intro x hx
    rcases nxt_nxU r s with e | ⟨u, e⟩
    · rw [e] at hx; cases hx
    · have hsame : numAt r ls x = n := by
        rw [hn]
        cases hl : nxt r s with
        | nil => rw [hl] at hx; cases hx
        | cons y ys =>
          refine nxU_same v (u := u) (s := (s.o + 2).tmod 4) (Q := 6) ?_ ?_
          · rw [← e]; exact hx
          · rw [← e, hl]; simp
      rw [e] at hx
      obtain ⟨q, hq, e1, e2, hl1, hh1⟩ := nxU_mem hx
      have hp := lie_lt hl1
      refine ⟨by omega, by omega, by omega, by omega, 8 * u + q, by omega, ?_⟩
      have hi : 8 * u + q < (numL r ls).length := by omega
      rw [← hsame, numAt, show (8 * x.t + x.p).toNat = 8 * u + q by omega, List.getD_eq_getElem?_getD, List.getElem?_eq_getElem hi]
      rfl
  have h79 := beyondL_ok (nl := nl) (of := numL r ls) (X := nxtV r s) (N := nxt r s) (n := n) hc (nxt_len r s) (by omega) hall
  rw [h79]
  congr 2
  unfold byL
  rw [hn]
  cases nxt r s with
  | nil => rfl
  | cons y ys =>
    show List.replicate (min (ys.length + 1) 1) _ = _
    rw [show min (ys.length + 1) 1 = 1 by omega]
    rfl
noncomputable def beyV (r : Rl) (ls : List Sg) (s : So) : PV := if valErr r ls = 0 then (if spErr r s = 0 then .tup [lst .any (byL r ls s), .int .i64 0] else .tup [.list .nil 1 [], .int .i64 (spErr r s)]) else .tup [.list .nil 1 [], .int .i64 (valErr r ls)]
theorem beyond_ok (r : Rl) (nl : Nl) (ls : List Sg) (s : So) (hb : r.s.length ≤ 3000) (hl : ls.length ≤ 10000) : R tb 44 [vR r, lst nl ls, vSo s] = some (beyV r ls s) := by
  have h19 := validate_ok r nl ls hb hl
  obtain ⟨st, sp, so⟩ := s
  refine R_of_G (F := pf44) rfl rfl rfl ?_
  by_cases h : valErr r ls = 0
  case neg => simp (disch := first | omega | with_unfolding_all rfl) [pf44, env0_eq, h19, h, beyV]
  have v := vd_of h
  have h65 := next_ok v.g (val0 h) hb ⟨st, sp, so⟩
  by_cases h2 : spErr r ⟨st, sp, so⟩ = 0
  case neg =>
    rw [nextV, if_neg h2] at h65
    simp (disch := first | omega | with_unfolding_all rfl) [pf44, env0_eq, h19, h, beyV, h65, h2]
  rw [nextV, if_pos h2] at h65
  have h79 := byP_ok v (nl := .any) ⟨st, sp, so⟩
  have h58 := nums_ok (nl := nl) v
  have hfx : frz [] .bor 64 (nxtV r ⟨st, sp, so⟩) = some (nxtV r ⟨st, sp, so⟩) := by
    rcases nxtV_cases r ⟨st, sp, so⟩ with ⟨q, _⟩ | q <;> rw [q] <;> rfl
  obtain ⟨X, hX⟩ : ∃ X, X = nxtV r ⟨st, sp, so⟩ := ⟨_, rfl⟩
  rw [← hX] at h65 h79 hfx
  simp only [vSo] at h65
  simp (disch := first | omega | with_unfolding_all rfl) [pf44, env0_eq, h19, h, beyV, h65, h2, h58, h79, hfx]
end Go.Proofs.Ytfocelelbcepnaa
end

section
set_option linter.unusedVariables false
set_option linter.unusedSimpArgs false
set_option maxHeartbeats 8000000
set_option maxRecDepth 20000
namespace Go.Proofs.Ytfocelelbcepnaa
open Go.Proofs.Ytfocelelbcepnaa.PM

theorem refBy_ok {r : Rl} {ls : List Sg} (v : Vd r ls) {nl : Nl} {out : List Int} (hR : NumsR r ls r.s.length out) {s : So} (h1 : has s.p s.o = true) (h2 : lie r s.t s.p = true) :
    R tb 78 [vR r, lst nl out, .int .i64 s.t, .int .i64 s.p, .int .i64 s.o] = some (if byL r ls s = [] ∧ bey r.w.toNat r.h.toNat s.t.toNat s.o < 0 then .list .nil 1 [] else lst .any (byL r ls s)) := by
  have g := v.g
  obtain ⟨W, H, T, a⟩ := at_of g h1 h2
  have hN' := a.nxt'
  obtain ⟨hw, hh, ht, hlt, hln, rg, bw, bh⟩ := a
  have hM : W * H ≤ 32 * 32 := Nat.mul_le_mul bw.2 bh.2
  have hol := hR.len
  obtain ⟨st, sp, so⟩ := s
  dsimp only at *
  subst ht
  have h87 := bey_ok bw bh hlt (s := so)
  have hbe : bey r.w.toNat r.h.toNat (T : Int).toNat so = bey W H T so := by rw [hw, hh]; rfl
  rw [hbe]
  obtain ⟨B, hB⟩ : ∃ B, B = bey W H T so := ⟨_, rfl⟩
  rw [← hB] at hN' h87 ⊢
  refine R_of_G (F := pf78) rfl rfl rfl ?_
  by_cases hb : B < 0
  · have hby : byL r ls ⟨T, sp, so⟩ = [] := by unfold byL; rw [hN', if_pos hb]
    simp (disch := first | omega | with_unfolding_all rfl) [pf78, env0_eq, hw, hh, h87, hb, hby]
  obtain ⟨u, hu⟩ : ∃ u : Nat, B = u := ⟨B.toNat, by omega⟩
  have huM := bey_lt bw.1 hlt (s := so) (by omega) (hB.symm.trans hu)
  rw [if_neg hb, hu] at hN'
  rw [if_neg (fun q => hb q.2)]
  have hu0 : ((u : Int)).toNat = u := by omega
  rw [hu0] at hN'
  rw [hu] at h87
  obtain ⟨s2, hs2⟩ : ∃ s2, s2 = (so + 2).tmod 4 := ⟨_, rfl⟩
  rw [← hs2] at hN'
  have hmod : IntKind.i64.wrap (so + 2) = so + 2 := wrapI (by omega) (by omega)
  have hu00 : ¬ (u : Int) < 0 := by omega
  obtain ⟨n, hn⟩ : ∃ n, n = (match nxU r u s2 6 with | [] => 0 | x :: _ => numAt r ls x) := ⟨_, rfl⟩
  have hby : byL r ls ⟨T, sp, so⟩ = List.replicate (min (nxU r u s2 6).length 1) n := by
    unfold byL
    rw [hN', hn]
    cases nxU r u s2 6 with
    | nil => rfl
    | cons y ys =>
      show _ = List.replicate (min (ys.length + 1) 1) _
      rw [show min (ys.length + 1) 1 = 1 by omega]; rfl
  have hnum : ∀ q : Nat, q < 6 → lie r u q = true → has q s2 = true → out[u * 6 + q]? = some n := fun q hq hl hs => by
    have hm : (⟨u, q, oth q s2⟩ : So) ∈ nxU r u s2 6 := by
      unfold nxU
      rw [List.mem_filterMap]
      exact ⟨q, by rw [List.mem_range]; exact hq, by rw [hl, hs]; rfl⟩
    have e1 : numAt r ls ⟨u, q, oth q s2⟩ = n := by
      rw [hn]
      cases hx : nxU r u s2 6 with
      | nil => rw [hx] at hm; cases hm
      | cons y ys => exact nxU_same v hm (by rw [hx]; simp)
    have e2 := (numsR_eq v hR (j := u * 6 + q) (by omega)).1
    have e3 : to8 (u * 6 + q) = 8 * u + q := by unfold to8; omega
    have e4 := num_len v
    rw [e2, e3]
    unfold numAt at e1
    dsimp only at e1
    rw [show (8 * (u : Int) + (q : Int)).toNat = 8 * u + q by omega, List.getD_eq_getElem?_getD] at e1
    rw [List.getElem?_eq_getElem (show 8 * u + q < (numL r ls).length by omega)] at e1 ⊢
    rw [← e1]; rfl
  rw [hby]
  simp (disch := first | omega | with_unfolding_all rfl) [pf78, env0_eq, hw, hh, h87, hu00]
  refine G_loopK [1, 4, 5, 11] (fun (Q : Nat) e h => Q ≤ 6 ∧ get e 13 = .int .i64 (Q : Int) ∧ get e 12 = mls Int 0 (min (nxU r u s2 Q).length 1) (min (nxU r u s2 Q).length 1) ∧ h = cH (min (nxU r u s2 Q).length 1) (min (nxU r u s2 Q).length 1) n) (fun Q => 6 - Q) (a₀ := 0) ⟨by omega, by simp, rfl, rfl⟩ ?_
  rintro Q e h hk ⟨hQ, g13, g12, rfl⟩
  simp at hk
  have hsc := nxU_succ r u s2 Q
  obtain ⟨m, hm⟩ : ∃ m, m = min (nxU r u s2 Q).length 1 := ⟨_, rfl⟩
  have hm1 : m ≤ 1 := by omega
  have hrl : (List.replicate m n).length = m := by simp
  have hnl : (nxU r u s2 (Q + 1)).length = (nxU r u s2 Q).length + if (lie r u Q && has Q s2) = true then 1 else 0 := by
    rw [hsc, List.length_append]; split <;> rfl
  rw [← hm] at g12 ⊢
  simp (disch := first | omega | with_unfolding_all rfl) [hk, g13]
  refine G_brd (fun d => ?_) (fun d => ?_)
  · have hQ6 : Q < 6 := by omega
    have hL := refLies_ok g (u : Int) (Q : Int)
    simp only [vR, hw, hh] at hL
    have hH := has_ok (Q : Int) s2
    have hno := hnum Q hQ6
    cases c1 : lie r u Q
    · rw [c1] at hL hnl
      simp at hnl
      simp (disch := first | omega | with_unfolding_all rfl) [hk, g13, g12, d, hw, hh, hL]
      refine ⟨Q + 1, by omega, by omega, by omega, ?_⟩
      rw [hnl, ← hm]; simp
    cases c2 : has Q s2
    · rw [c1] at hL
      rw [c2] at hH
      rw [c1, c2] at hnl
      simp at hnl
      simp (disch := first | omega | with_unfolding_all rfl) [hk, g13, g12, d, hw, hh, hL, hmod, ← hs2, hH]
      refine ⟨Q + 1, by omega, by omega, by omega, ?_⟩
      rw [hnl, ← hm]; simp
    rw [c1] at hL
    rw [c2] at hH
    rw [c1, c2] at hnl
    simp at hnl
    have hz := hno c1 c2
    obtain ⟨hzl, hze⟩ := List.getElem?_eq_some_iff.1 hz
    obtain ⟨z, hzd⟩ : ∃ z, z = u * 6 + Q := ⟨_, rfl⟩
    have hzI : (u : Int) * 6 + (Q : Int) = (z : Int) := by omega
    have hze' : ∀ q, out[z]'q = n := fun q => by simp only [hzd]; exact hze
    rw [← hzd] at hzl
    have hm' : min (nxU r u s2 (Q + 1)).length 1 = 1 := by omega
    have hm01 : m = 0 ∨ m = 1 := by omega
    simp (disch := first | omega | with_unfolding_all rfl) [hk, g13, g12, d, hw, hh, hL, hmod, ← hs2, hH, hzI, hze']
    refine G_loopK [1, 4, 5, 11, 12, 13, 14] (fun (j : Nat) e h => j ≤ m ∧ get e 16 = .int .i64 (j : Int) ∧ get e 15 = .bool (decide (0 < j)) ∧ h = cH m m n) (fun j => m - j) (a₀ := 0) ⟨by omega, by simp, by simp, rfl⟩ ?_
    rintro j e2 h2 hk2 ⟨hj, g16, g15, rfl⟩
    simp at hk2
    simp (disch := first | omega | with_unfolding_all rfl) [hk2, g16]
    have hrg : ∀ (j : Nat) (q : j < (List.replicate m n).length), (List.replicate m n)[j] = n := fun j q => List.getElem_replicate q
    refine G_brd (fun d2 => ?_) (fun d2 => ?_)
    · have hj0 : j = 0 := by omega
      subst hj0
      have g15' : get e2 15 = .bool false := g15
      simp (disch := first | omega | with_unfolding_all rfl) [hk2, g16, g15', d2, hrg]
      exact ⟨1, by omega, by omega, by omega, by omega⟩
    · have hjm : j = m := by omega
      subst hjm
      rcases hm01 with rfl | rfl
      · have g15' : get e2 15 = .bool false := g15
        have happ : evApp 3 1 8 (mls Int 0 0 0) (lst .ex [n]) (cH 0 0 n) = some (mls Int 0 1 1, cH 1 1 n) := evApp_mls (xs := ([] : List Int)) (ys := [n]) rfl rfl (by simp) rfl rfl (by simp)
        simp (disch := first | omega | with_unfolding_all rfl) [hk2, g16, g15', d2, happ]
        refine G_loopK [1, 4, 5, 11, 12, 13, 14] (fun (_ : Nat) e h => get e 17 = .int .i64 0 ∧ h = cH 1 1 n) (fun _ => 0) (a₀ := 0) ⟨by simp, rfl⟩ ?_
        rintro _ e3 h3 hk3 ⟨g17, rfl⟩
        simp at hk3
        simp (disch := first | omega | with_unfolding_all rfl) [hk3, g17]
        refine ⟨Q + 1, by omega, by omega, by omega, ?_⟩
        rw [hm']; simp
      · have g15' : get e2 15 = .bool true := g15
        simp (disch := first | omega | with_unfolding_all rfl) [hk2, g16, g15', d2]
        refine ⟨Q + 1, by omega, by omega, by omega, ?_⟩
        rw [hm']; simp
  · have hQ6 : Q = 6 := by omega
    subst hQ6
    simp (disch := first | omega | with_unfolding_all rfl) [hk, g13, g12, d, ← hm]
theorem refBeyond_ok (r : Rl) (nl : Nl) (ls : List Sg) (s : So) (hb : r.s.length ≤ 3000) (hl : ls.length ≤ 10000) : ∃ X, R tb 43 [vR r, lst nl ls, vSo s] = some (if valErr r ls = 0 then (if spErr r s = 0 then .tup [X, .int .i64 0] else .tup [.list .nil 1 [], .int .i64 (spErr r s)]) else .tup [.list .nil 1 [], .int .i64 (valErr r ls)]) ∧ ((X = .list .nil 1 [] ∧ byL r ls s = []) ∨ X = lst .any (byL r ls s)) := by
  have h18 := refValidate_ok r nl ls hb hl
  by_cases h : valErr r ls = 0
  case neg =>
    refine ⟨lst .any (byL r ls s), ?_, .inr rfl⟩
    obtain ⟨st, sp, so⟩ := s
    refine R_of_G (F := pf43) rfl rfl rfl ?_
    simp (disch := first | omega | with_unfolding_all rfl) [pf43, env0_eq, h18, h]
  have v := vd_of h
  have h64 := refNext_ok v.g (val0 h) hb s
  by_cases h2 : spErr r s = 0
  case neg =>
    refine ⟨lst .any (byL r ls s), ?_, .inr rfl⟩
    rw [nextV, if_neg h2] at h64
    obtain ⟨st, sp, so⟩ := s
    refine R_of_G (F := pf43) rfl rfl rfl ?_
    simp (disch := first | omega | with_unfolding_all rfl) [pf43, env0_eq, h18, h, h64, h2]
  rw [nextV, if_pos h2] at h64
  obtain ⟨hh1, hh2⟩ := spErr0 h2
  obtain ⟨out, h56, hR⟩ := refNumbers_ok (nl := nl) v
  have h78 := refBy_ok v (nl := .any) hR hh1 hh2
  obtain ⟨X, hX⟩ : ∃ X, X = (if byL r ls s = [] ∧ bey r.w.toNat r.h.toNat s.t.toNat s.o < 0 then PV.list .nil 1 [] else lst .any (byL r ls s)) := ⟨_, rfl⟩
  rw [← hX] at h78
  have hXc : (X = .list .nil 1 [] ∧ byL r ls s = []) ∨ X = lst .any (byL r ls s) := by
    rw [hX]
    split
    · rename_i c; exact .inl ⟨rfl, c.1⟩
    · exact .inr rfl
  refine ⟨X, ?_, hXc⟩
  obtain ⟨Y, hY⟩ : ∃ Y, Y = nxtV r s := ⟨_, rfl⟩
  rw [← hY] at h64
  obtain ⟨st, sp, so⟩ := s
  refine R_of_G (F := pf43) rfl rfl rfl ?_
  rcases hXc with ⟨q, _⟩ | q <;> rw [q] at h78 ⊢ <;> simp (disch := first | omega | with_unfolding_all rfl) [pf43, env0_eq, h18, h, h64, h2, h56, h78]
theorem sameIntNil_ok {nl : Nl} : R tb 45 [lst nl ([] : List Int), .list .nil 1 []] = some (.bool true) := by
  exact sameInts_ok (n1 := nl) (n2 := .nil) [] (by simp)
theorem byL_len (r : Rl) (ls : List Sg) (s : So) : (byL r ls s).length ≤ 1 := by
  unfold byL
  split <;> simp
theorem law13_ok (r : Rl) (ls : List Sg) (s : So) : R tb 13 [vR r, lst .any ls, vSo s] = some (.bool true) := by
  have h16 := far_ok r .any ls
  cases hf : farB r ls
  case true =>
    obtain ⟨st, sp, so⟩ := s
    refine R_of_G (F := pf13) rfl rfl rfl ?_
    simp (disch := first | omega | with_unfolding_all rfl) [pf13, env0_eq, h16, hf, known_ok]
  obtain ⟨f1, f2, f3⟩ := not_far hf
  have h44 := beyond_ok r .any ls s (by omega) (by omega)
  obtain ⟨X, h43, hX⟩ := refBeyond_ok r .any ls s (by omega) (by omega)
  have hnil : R tb 45 [.list .nil 1 [], .list .nil 1 []] = some (.bool true) := R_of (n := 60) (by kernel_rfl)
  obtain ⟨st, sp, so⟩ := s
  refine R_of_G (F := pf13) rfl rfl rfl ?_
  by_cases h : valErr r ls = 0
  case neg =>
    rw [if_neg h] at h43
    rw [beyV, if_neg h] at h44
    simp (disch := first | omega | with_unfolding_all rfl) [pf13, env0_eq, h16, hf, h43, h44, hnil, known_ok]
  rw [if_pos h] at h43
  rw [beyV, if_pos h] at h44
  by_cases h2 : spErr r ⟨st, sp, so⟩ = 0
  case neg =>
    rw [if_neg h2] at h43 h44
    simp (disch := first | omega | with_unfolding_all rfl) [pf13, env0_eq, h16, hf, h43, h44, hnil, known_ok]
  rw [if_pos h2] at h43 h44
  have hbl := byL_len r ls ⟨st, sp, so⟩
  rcases hX with ⟨rfl, q⟩ | rfl
  · rw [q] at h44
    have h45 := sameIntNil_ok (nl := .any)
    simp (disch := first | omega | with_unfolding_all rfl) [pf13, env0_eq, h16, hf, h43, h44, h45, known_ok]
  · have h45 := sameInts_ok (n1 := .any) (n2 := .any) (byL r ls ⟨st, sp, so⟩) (by omega)
    simp (disch := first | omega | with_unfolding_all rfl) [pf13, env0_eq, h16, hf, h43, h44, h45, known_ok]
end Go.Proofs.Ytfocelelbcepnaa
end
