/- Blocks: which signals may stand, the blocks, the block of a piece: the laws' functions. -/
import Derived.Test.YtfocelelbcepnaaBlockRefBl
set_option linter.unusedVariables false
set_option linter.unusedSimpArgs false
set_option maxHeartbeats 8000000
set_option maxRecDepth 20000
namespace Go.Proofs.Ytfocelelbcepnaa
open Go.Proofs.Ytfocelelbcepnaa.PM

def farB (r : Rl) (ls : List Sg) : Bool := decide (1100 < r.s.length) || (decide (1100 < r.d.length) || decide (400 < ls.length))
theorem far_ok (r : Rl) (nl : Nl) (ls : List Sg) : R tb 16 [vR r, lst nl ls] = some (.bool (farB r ls)) := by
  refine R_of_G (F := pf16) rfl rfl rfl ?_
  simp (disch := first | omega | with_unfolding_all rfl) [pf16, env0_eq]
  by_cases a1 : 1100 < r.s.length
  · have : (1100 : Int) < r.s.length := by omega
    simp (disch := first | omega | with_unfolding_all rfl) [a1, this, farB]
  by_cases a2 : 1100 < r.d.length
  · have : (1100 : Int) < r.d.length := by omega
    have b1 : ¬ (1100 : Int) < r.s.length := by omega
    simp (disch := first | omega | with_unfolding_all rfl) [a1, a2, this, b1, farB]
  by_cases a3 : 400 < ls.length
  · have : (400 : Int) < ls.length := by omega
    have b1 : ¬ (1100 : Int) < r.s.length := by omega
    have b2 : ¬ (1100 : Int) < r.d.length := by omega
    simp (disch := first | omega | with_unfolding_all rfl) [a1, a2, a3, this, b1, b2, farB]
  · have b1 : ¬ (1100 : Int) < r.s.length := by omega
    have b2 : ¬ (1100 : Int) < r.d.length := by omega
    have b3 : ¬ (400 : Int) < ls.length := by omega
    simp (disch := first | omega | with_unfolding_all rfl) [a1, a2, a3, b1, b2, b3, farB]
theorem not_far {r : Rl} {ls : List Sg} (h : farB r ls = false) : r.s.length ≤ 1100 ∧ r.d.length ≤ 1100 ∧ ls.length ≤ 400 := by
  simp [farB] at h; omega
/-- The document's example. -/
def r0 : Rl := ⟨4, 4, .bor, 1 :: 1 :: List.replicate 14 0, .bor, List.replicate 16 false⟩
def s0 : Sg := ⟨0, 0, 0, 0⟩
theorem r0_lie : ∀ t p : Int, lie r0 t p = true → p = 0 ∧ (t = 0 ∨ t = 1) := by
  intro t p h
  have h1 := lie_lt h
  have h2 : t < 16 := h1.2.1
  have key : ∀ T : Fin 16, ∀ P : Fin 6, lie r0 (T : Nat) (P : Nat) = true → (P : Nat) = 0 ∧ ((T : Nat) = 0 ∨ (T : Nat) = 1) := by decide
  have := key ⟨t.toNat, by omega⟩ ⟨p.toNat, by omega⟩ (by
    show lie r0 ((t.toNat : Nat) : Int) ((p.toNat : Nat) : Int) = true
    rw [Int.toNat_of_nonneg h1.1, Int.toNat_of_nonneg h1.2.2.1]; exact h)
  dsimp only at this
  omega
theorem r0_err : railErr r0 = 0 := by decide
theorem v00 : valErr r0 [] = 0 := by decide
theorem v01 : valErr r0 [s0] = 0 := by decide
theorem r0_edge {ls : List Sg} {x y : Nat} (h : EE r0 ls x y) : x = 0 ∧ y = 8 ∧ sgn ls 0 0 0 = false := by
  rcases h with ⟨t, ht, h⟩
  rcases h with ⟨p, q, _, hqp, hp6, hl, hlq, hpr, rfl, rfl⟩ | ⟨c, p, q, _, hp6, hq6, hl, hh, hs, hlq, hhq, hsq, rfl, rfl⟩ | ⟨c, p, q, _, hp6, hq6, hl, hh, hs, hlq, hhq, hsq, rfl, rfl⟩
  · have h1 := r0_lie _ _ hl
    omega
  · have h1 := r0_lie _ _ hl
    have h2 := r0_lie _ _ hlq
    obtain rfl : p = 0 := by omega
    obtain rfl : t = 0 := by omega
    exact ⟨by omega, by omega, hs⟩
  · have h1 := r0_lie _ _ hl
    obtain rfl : p = 0 := by omega
    exact absurd hh (by decide)
theorem r0_nums {ls : List Sg} {out : List Int} (hl : out.length = 128) (h8 : ∃ m : Nat, out[8]? = some (m : Int) ∧ IsNum (EE r0 ls) 8 m) (h0 : out[0]? = some 0) (hz : ∀ i, i < 128 → i ≠ 0 → i ≠ 8 → out[i]? = some (-1)) : Nums r0 ls out := by
  refine ⟨by rw [hl]; rfl, fun i hi hli => ?_, fun i hi hli => ?_⟩
  · have h1 := r0_lie _ _ hli
    have : i = 0 ∨ i = 8 := by omega
    rcases this with rfl | rfl
    · exact ⟨0, h0, .refl _, fun k _ => Nat.zero_le k⟩
    · exact h8
  · refine hz i (by omega) ?_ ?_
    · rintro rfl; exact absurd hli (by decide)
    · rintro rfl; exact absurd hli (by decide)
def o1 : List Int := (List.replicate 128 (-1)).set 0 0 |>.set 8 0
def o2 : List Int := (List.replicate 128 (-1)).set 0 0 |>.set 8 8
theorem k1 : numL r0 [] = o1 := by
  refine (nums_is (vd_of v00)).uniq (r0_nums rfl ⟨0, rfl, ?_, fun k _ => Nat.zero_le k⟩ rfl fun i hi h0 h8 => ?_)
  · refine .one (.inr ⟨0, by decide, .inr (.inl ⟨by decide, 0, 0, by omega, by omega, by omega, by decide, by decide, by decide, by decide, by decide, by decide, rfl, rfl⟩)⟩)
  · rw [o1, List.getElem?_set_ne (by omega), List.getElem?_set_ne (by omega), List.getElem?_replicate, if_pos hi]
theorem k2 : numL r0 [s0] = o2 := by
  refine (nums_is (vd_of v01)).uniq (r0_nums rfl ⟨8, rfl, .refl _, fun k hk => ?_⟩ rfl fun i hi h0 h8 => ?_)
  · have no : ∀ x y, ¬ EE r0 [s0] x y := fun x y h => absurd (r0_edge h).2.2 (by decide)
    have : k = 8 := by
      cases hk with
      | refl => rfl
      | step _ e => rcases e with e | e
                    · exact absurd e (no _ _)
                    · exact absurd e (no _ _)
    omega
  · rw [o2, List.getElem?_set_ne (by omega), List.getElem?_set_ne (by omega), List.getElem?_replicate, if_pos hi]
theorem b1_len : (blks r0 []).length = 1 := by rw [blks, k1]; decide
theorem b2_len : (blks r0 [s0]).length = 2 := by rw [blks, k2]; decide
theorem known_ok : R tb 17 [] = some (.bool true) := by
  have h1 := blocks_ok r0 .nil [] (by decide) (by decide)
  have h2 := blocks_ok r0 .ex [s0] (by decide) (by decide)
  rw [v00, if_pos rfl] at h1
  rw [v01, if_pos rfl] at h2
  replace h1 : R tb 21 [PV.agg [.int .i64 4, .int .i64 4, lst Nl.bor ([1, 1, 0, 0, 0, 0, 0, 0, 0, 0, 0, 0, 0, 0, 0, 0] : List Int), lst Nl.bor [false, false, false, false, false, false, false, false, false, false, false, false, false, false, false, false]], .list .nil 4 []] = _ := h1
  replace h2 : R tb 21 [PV.agg [.int .i64 4, .int .i64 4, lst Nl.bor ([1, 1, 0, 0, 0, 0, 0, 0, 0, 0, 0, 0, 0, 0, 0, 0] : List Int), lst Nl.bor [false, false, false, false, false, false, false, false, false, false, false, false, false, false, false, false]], .list .ex 4 [.int .i64 0, .int .i64 0, .int .i64 0, .int .i64 0]] = _ := h2
  refine R_of_G (F := pf17) rfl rfl rfl ?_
  simp (disch := first | omega | decide | with_unfolding_all rfl) [pf17, env0_eq, List.replicate, h1, h2, b1_len, b2_len]
/-- The same lists. -/
theorem sameInts_ok {n1 n2 : Nl} (xs : List Int) (h : xs.length ≤ 100000) : R tb 45 [lst n1 xs, lst n2 xs] = some (.bool true) := by
  refine R_of_G (F := pf45) rfl rfl rfl ?_
  simp (disch := first | omega | with_unfolding_all rfl) [pf45, env0_eq]
  refine G_scanC [0, 1] 5 (fun _ => false) xs.length 0 (by simp) (Nat.zero_le _) ?_
  rintro i e - hi hz hk g5
  simp at hk
  simp (disch := first | omega | with_unfolding_all rfl) [hk, g5]
  refine G_brd (fun c => ?_) (fun c => ?_)
  · simp (disch := first | omega | with_unfolding_all rfl) [hk, g5, c]
  · simp (disch := first | omega | with_unfolding_all rfl) [hk, g5, c]
theorem sameParts_ok {n1 n2 : Nl} (xs : List Pt) (h : xs.length ≤ 100000) (hp : ∀ p ∈ xs, p.p.length ≤ 100000) : R tb 22 [lst n1 xs, lst n2 xs] = some (.bool true) := by
  refine R_of_G (F := pf22) rfl rfl rfl ?_
  simp (disch := first | omega | with_unfolding_all rfl) [pf22, env0_eq]
  refine G_scanC [0, 1] 5 (fun _ => false) xs.length 0 (by simp) (Nat.zero_le _) ?_
  rintro i e - hi hz hk g5
  simp at hk
  simp (disch := first | omega | with_unfolding_all rfl) [hk, g5]
  refine G_brd (fun c => ?_) (fun c => ?_)
  · have hin : i < xs.length := by omega
    obtain ⟨x, hx⟩ : ∃ x, x = xs[i] := ⟨_, rfl⟩
    have h45 := sameInts_ok (n1 := .any) (n2 := .any) x.p (hp x (by rw [hx]; exact List.getElem_mem hin))
    simp (disch := first | omega | with_unfolding_all rfl) [hk, g5, c, ← hx, h45]
  · simp (disch := first | omega | with_unfolding_all rfl) [hk, g5, c]
theorem sameNil_ok : R tb 22 [.list .nil 1 [], .list .nil 1 []] = some (.bool true) := R_of (n := 60) (by kernel_rfl)
theorem blks_le {r : Rl} {ls : List Sg} (hb : r.s.length ≤ 3000) (h : valErr r ls = 0) : (blks r ls).length ≤ 100000 ∧ ∀ p ∈ blks r ls, p.p.length ≤ 100000 := by
  have hl := num_len (vd_of h)
  have h1 := prt8_len (of := numL r ls) (numL r ls).length
  refine ⟨by unfold blks; omega, fun p hp => ?_⟩
  have h2 := prt8_plen (of := numL r ls) (numL r ls).length p hp
  omega
/-! ### The laws -/
theorem law3_ok (r : Rl) (nl : Nl) (ls : List Sg) : R tb 3 [vR r, lst nl ls] = some (.bool true) := by
  have h16 := far_ok r nl ls
  refine R_of_G (F := pf3) rfl rfl rfl ?_
  cases hf : farB r ls
  · obtain ⟨f1, f2, f3⟩ := not_far hf
    have h18 := refValidate_ok r nl ls (by omega) (by omega)
    have h19 := validate_ok r nl ls (by omega) (by omega)
    simp (disch := first | omega | with_unfolding_all rfl) [pf3, env0_eq, h16, hf, h18, h19, known_ok]
  · simp (disch := first | omega | with_unfolding_all rfl) [pf3, env0_eq, h16, hf, known_ok]
theorem law4_ok (r : Rl) (nl : Nl) (ls : List Sg) : R tb 4 [vR r, lst nl ls] = some (.bool true) := by
  have h16 := far_ok r nl ls
  refine R_of_G (F := pf4) rfl rfl rfl ?_
  cases hf : farB r ls
  · obtain ⟨f1, f2, f3⟩ := not_far hf
    have h20 := refBlocks_ok r nl ls (by omega) (by omega)
    have h21 := blocks_ok r nl ls (by omega) (by omega)
    by_cases h : valErr r ls = 0
    · obtain ⟨b1, b2⟩ := blks_le (by omega) h
      have h22 := sameParts_ok (n1 := .any) (n2 := .any) (blks r ls) b1 b2
      rw [if_pos h] at h20 h21
      simp (disch := first | omega | with_unfolding_all rfl) [pf4, env0_eq, h16, hf, h20, h21, h22, known_ok]
    · rw [if_neg h] at h20 h21
      simp (disch := first | omega | with_unfolding_all rfl) [pf4, env0_eq, h16, hf, h20, h21, sameNil_ok, known_ok]
  · simp (disch := first | omega | with_unfolding_all rfl) [pf4, env0_eq, h16, hf, known_ok]
/-- The block of a piece. -/
noncomputable def ofV (r : Rl) (ls : List Sg) (t p : Int) : PV := if valErr r ls = 0 then (if lie r t p = true then .tup [.int .i64 ((numL r ls).getD (8 * t + p).toNat 0), .int .i64 0] else .tup [.int .i64 0, .int .i64 2]) else .tup [.int .i64 0, .int .i64 (valErr r ls)]
theorem of_ok (r : Rl) (nl : Nl) (ls : List Sg) (t p : Int) (hb : r.s.length ≤ 3000) (hl : ls.length ≤ 10000) : R tb 24 [vR r, lst nl ls, .int .i64 t, .int .i64 p] = some (ofV r ls t p) := by
  have h19 := validate_ok r nl ls hb hl
  refine R_of_G (F := pf24) rfl rfl rfl ?_
  simp (disch := first | omega | with_unfolding_all rfl) [pf24, env0_eq, h19]
  by_cases h : valErr r ls = 0
  case neg => simp (disch := first | omega | with_unfolding_all rfl) [h, ofV]
  have v := vd_of h
  have h54 := lies_ok v.g t p
  have h58 := nums_ok (nl := nl) v
  simp (disch := first | omega | with_unfolding_all rfl) [h, h54]
  cases c : lie r t p
  · simp (disch := first | omega | with_unfolding_all rfl) [h, c, ofV]
  · have hlt := lie_lt c
    have hm := v.g.mul
    have hll := num_len v
    have hls := v.g.ls
    have h59 := number_ok (t := t) (p := p) (by omega) (by omega)
    obtain ⟨z, hz⟩ : ∃ z : Nat, (z : Int) = 8 * t + p := ⟨(8 * t + p).toNat, by omega⟩
    have hzl : z < (numL r ls).length := by omega
    have hgz := getD_get hzl
    rw [← hz] at h59
    obtain ⟨w, hw⟩ : ∃ w, w = (numL r ls).getD z 0 := ⟨_, rfl⟩
    have hof : ofV r ls t p = .tup [.int .i64 w, .int .i64 0] := by
      rw [ofV, if_pos h, if_pos c, ← hz, hw]; rfl
    rw [hof]
    rw [← hw] at hgz
    clear hw
    simp (disch := first | omega | with_unfolding_all rfl) [h, c, h58, h59, hgz]
theorem refOf_ok (r : Rl) (nl : Nl) (ls : List Sg) (t p : Int) (hb : r.s.length ≤ 3000) (hl : ls.length ≤ 10000) : R tb 23 [vR r, lst nl ls, .int .i64 t, .int .i64 p] = some (ofV r ls t p) := by
  have h18 := refValidate_ok r nl ls hb hl
  refine R_of_G (F := pf23) rfl rfl rfl ?_
  simp (disch := first | omega | with_unfolding_all rfl) [pf23, env0_eq, h18]
  by_cases h : valErr r ls = 0
  case neg => simp (disch := first | omega | with_unfolding_all rfl) [h, ofV]
  have v := vd_of h
  have h25 := refLies_ok v.g t p
  obtain ⟨out, h56, hR⟩ := refNumbers_ok (nl := nl) v
  simp (disch := first | omega | with_unfolding_all rfl) [h, h25]
  cases c : lie r t p
  · simp (disch := first | omega | with_unfolding_all rfl) [h, c, ofV]
  · have hlt := lie_lt c
    have hm := v.g.mul
    have hll := hR.len
    have hls := v.g.ls
    obtain ⟨z, hz⟩ : ∃ z : Nat, (z : Int) = t * 6 + p := ⟨(t * 6 + p).toNat, by omega⟩
    have hzl : z < out.length := by omega
    have h8 : (8 * t + p).toNat = to8 z := by unfold to8; omega
    have hgz := getD_get hzl
    have heq := (numsR_eq v hR (j := z) (by omega)).1
    have hz2 : out.getD z 0 = (numL r ls).getD (to8 z) 0 := by rw [List.getD_eq_getElem?_getD, List.getD_eq_getElem?_getD, heq]
    rw [hz2] at hgz
    simp (disch := first | omega | with_unfolding_all rfl) [h, c, h56, ← hz, hgz, ofV, h8]
theorem ofV_tup (r : Rl) (ls : List Sg) (t p : Int) : ∃ a b, ofV r ls t p = .tup [.int .i64 a, .int .i64 b] := by
  unfold ofV
  split
  · split
    · exact ⟨_, _, rfl⟩
    · exact ⟨_, _, rfl⟩
  · exact ⟨_, _, rfl⟩
theorem law5_ok (r : Rl) (nl : Nl) (ls : List Sg) (t p : Int) : R tb 5 [vR r, lst nl ls, .int .i64 t, .int .i64 p] = some (.bool true) := by
  have h16 := far_ok r nl ls
  refine R_of_G (F := pf5) rfl rfl rfl ?_
  cases hf : farB r ls
  · obtain ⟨f1, f2, f3⟩ := not_far hf
    have h23 := refOf_ok r nl ls t p (by omega) (by omega)
    have h24 := of_ok r nl ls t p (by omega) (by omega)
    obtain ⟨a, b, hab⟩ := ofV_tup r ls t p
    rw [hab] at h23 h24
    simp (disch := first | omega | with_unfolding_all rfl) [pf5, env0_eq, h16, hf, h23, h24, known_ok]
  · simp (disch := first | omega | with_unfolding_all rfl) [pf5, env0_eq, h16, hf, known_ok]
end Go.Proofs.Ytfocelelbcepnaa
