/- Blocks: the blocks, on both sides. -/
import Derived.Test.YtfocelelbcepnaaBlockRefNum
set_option linter.unusedVariables false
set_option linter.unusedSimpArgs false
set_option maxHeartbeats 8000000
set_option maxRecDepth 20000
namespace Go.Proofs.Ytfocelelbcepnaa
open Go.Proofs.Ytfocelelbcepnaa.PM

/-- The numbers of the blocks. -/
noncomputable def numL (r : Rl) (ls : List Sg) : List Int := open Classical in if h : ∃ out, Nums r ls out then h.choose else []
theorem nums_is {r : Rl} {ls : List Sg} (v : Vd r ls) : Nums r ls (numL r ls) := by
  obtain ⟨out, _, h⟩ := numbers_ok (nl := .any) v
  unfold numL
  rw [dif_pos ⟨out, h⟩]
  exact Exists.choose_spec (p := fun out => Nums r ls out) ⟨out, h⟩
theorem nums_ok {r : Rl} {nl : Nl} {ls : List Sg} (v : Vd r ls) : R tb 58 [vR r, lst nl ls] = some (lst .any (numL r ls)) := by
  obtain ⟨out, h1, h2⟩ := numbers_ok (nl := nl) v
  rw [h1, h2.uniq (nums_is v)]
theorem num_len {r : Rl} {ls : List Sg} (v : Vd r ls) : (numL r ls).length = 8 * r.s.length := by
  have h1 := (nums_is v).len
  have h2 := v.g.ls
  omega
theorem edge_lies {r : Rl} {ls : List Sg} {x y : Nat} (g : Good r) (h : EE r ls x y ∨ EE r ls y x) : lie r ((y : Int) / 8) ((y : Int) % 8) = true := by
  have key : ∀ t p : Nat, p < 6 → lie r t p = true → lie r (((8 * t + p : Nat) : Int) / 8) (((8 * t + p : Nat) : Int) % 8) = true := by
    intro t p hp hl
    have e1 : ((8 * t + p : Nat) : Int) / 8 = (t : Int) := by omega
    have e2 : ((8 * t + p : Nat) : Int) % 8 = (p : Int) := by omega
    rw [e1, e2]; exact hl
  rcases h with ⟨t, ht, h⟩ | ⟨t, ht, h⟩
  · rcases h with ⟨p, q, _, hqp, hp6, hl, hlq, hpr, rfl, rfl⟩ | ⟨c, p, q, _, hp6, hq6, hl, hh, hs, hlq, hhq, hsq, rfl, rfl⟩ | ⟨c, p, q, _, hp6, hq6, hl, hh, hs, hlq, hhq, hsq, rfl, rfl⟩
    · exact key _ _ (by omega) hlq
    · exact key _ _ (by omega) hlq
    · exact key _ _ (by omega) hlq
  · rcases h with ⟨p, q, _, hqp, hp6, hl, hlq, hpr, rfl, rfl⟩ | ⟨c, p, q, _, hp6, hq6, hl, hh, hs, hlq, hhq, hsq, rfl, rfl⟩ | ⟨c, p, q, _, hp6, hq6, hl, hh, hs, hlq, hhq, hsq, rfl, rfl⟩
    · exact key _ _ (by omega) hl
    · exact key _ _ (by omega) hl
    · exact key _ _ (by omega) hl
theorem cn_lies8 {r : Rl} {ls : List Sg} {x y : Nat} (g : Good r) (h : Cn (EE r ls) x y) (hx : lie r ((x : Int) / 8) ((x : Int) % 8) = true) : lie r ((y : Int) / 8) ((y : Int) % 8) = true := by
  cases h with
  | refl => exact hx
  | step _ e => exact edge_lies g e
theorem nums_nm {r : Rl} {ls : List Sg} {out : List Int} (g : Good r) (h : Nums r ls out) : Nm out := by
  have hm := g.mul
  refine ⟨by have := h.len; omega, fun i hi => ?_⟩
  cases c : lie r ((i : Int) / 8) ((i : Int) % 8)
  · left
    have := h.off i hi c
    simp [this]
  · right
    obtain ⟨m, h1, h2⟩ := h.on i hi c
    have hmi : m ≤ i := h2.2 _ (.refl _)
    have hlm := cn_lies8 g h2.1 c
    obtain ⟨m', h3, h4⟩ := h.on m (by omega) hlm
    have : m' = m := h4.uniq (h2.of_cn h2.1)
    subst this
    exact ⟨m', by simp [h1], hmi, by simp [h3]⟩
noncomputable def blks (r : Rl) (ls : List Sg) : List Pt := prt8 (numL r ls) (numL r ls).length
theorem blocks_ok (r : Rl) (nl : Nl) (ls : List Sg) (hb : r.s.length ≤ 3000) (hl : ls.length ≤ 10000) : R tb 21 [vR r, lst nl ls] = some (if valErr r ls = 0 then .tup [lst .any (blks r ls), .int .i64 0] else .tup [.list .nil 1 [], .int .i64 (valErr r ls)]) := by
  have h19 := validate_ok r nl ls hb hl
  refine R_of_G (F := pf21) rfl rfl rfl ?_
  simp (disch := first | omega | with_unfolding_all rfl) [pf21, env0_eq, h19]
  by_cases h : valErr r ls = 0
  · have v := vd_of h
    have h58 := nums_ok (nl := nl) v
    have h57 := parts_ok (nl := .any) (nums_nm v.g (nums_is v))
    simp (disch := first | omega | with_unfolding_all rfl) [h, h58, h57, blks]
  · simp (disch := first | omega | with_unfolding_all rfl) [h]
/-! ### The same list, in six numbers a tile -/
theorem numsR_eq {r : Rl} {ls : List Sg} (v : Vd r ls) {out : List Int} (h : NumsR r ls r.s.length out) {j : Nat} (hj : j < 6 * r.s.length) : out[j]? = (numL r ls)[to8 j]? ∧ (lie6 r j = false → out[j]? = some (-1)) := by
  have hn := nums_is v
  have hl := num_len v
  have e1 : ((to8 j : Nat) : Int) / 8 = (j : Int) / 6 := by unfold to8; omega
  have e2 : ((to8 j : Nat) : Int) % 8 = (j : Int) % 6 := by unfold to8; omega
  have h8 : to8 j < (numL r ls).length := by unfold to8; omega
  refine ⟨?_, h.off j hj⟩
  cases c : lie6 r j
  · rw [h.off j hj c, hn.off _ h8 (by rw [e1, e2]; exact c)]
  · obtain ⟨m, h1, h2⟩ := h.on j hj c
    obtain ⟨m', h3, h4⟩ := hn.on _ h8 (by rw [e1, e2]; exact c)
    rw [h2, h3, h1.uniq h4]
theorem num_gap {r : Rl} {ls : List Sg} (v : Vd r ls) {i : Nat} (hi : i < (numL r ls).length) (h6 : 6 ≤ i % 8) : (numL r ls)[i]? = some (-1) := by
  refine (nums_is v).off i hi ?_
  cases c : lie r ((i : Int) / 8) ((i : Int) % 8)
  · rfl
  · have := lie_lt c; omega
def prt6 (of : List Int) (k : Nat) : List Pt := (List.range k).foldl (fun pts (j : Nat) => addP pts (to8 j : Int) (of.getD j 0)) []
theorem prt6_succ (of : List Int) (k : Nat) : prt6 of (k + 1) = addP (prt6 of k) (to8 k : Int) (of.getD k 0) := by simp [prt6, List.range_succ]
theorem addP_neg (pts : List Pt) (i n : Int) (h : n < 0) : addP pts i n = pts := by rw [addP, if_pos h]
theorem prt68 {r : Rl} {ls : List Sg} (v : Vd r ls) {out : List Int} (h : NumsR r ls r.s.length out) : ∀ T, T ≤ r.s.length → prt6 out (6 * T) = prt8 (numL r ls) (8 * T)
  | 0, _ => rfl
  | T + 1, hT => by
    have ih := prt68 v h T (by omega)
    have hl := num_len v
    have st : ∀ p, p < 6 → prt6 out (6 * T + p) = prt8 (numL r ls) (8 * T + p) := by
      intro p
      induction p with
      | zero => intro _; exact ih
      | succ p ih2 =>
        intro hp
        rw [← Nat.add_assoc, ← Nat.add_assoc, prt6_succ, prt8_succ, ih2 (by omega)]
        have h1 : to8 (6 * T + p) = 8 * T + p := by unfold to8; omega
        have h2 := (numsR_eq v h (j := 6 * T + p) (by omega)).1
        rw [h1] at h2
        rw [h1, List.getD_eq_getElem?_getD, List.getD_eq_getElem?_getD, h2]
    have h5 := st 5 (by omega)
    have h1 : to8 (6 * T + 5) = 8 * T + 5 := by unfold to8; omega
    have h2 := (numsR_eq v h (j := 6 * T + 5) (by omega)).1
    rw [h1] at h2
    have e6 : 6 * (T + 1) = 6 * T + 5 + 1 := by omega
    have e8 : 8 * (T + 1) = 8 * T + 5 + 1 + 1 + 1 := by omega
    rw [e6, e8, prt6_succ, prt8_succ, prt8_succ, prt8_succ, h5]
    have g6 := num_gap v (i := 8 * T + 5 + 1) (by omega) (by omega)
    have g7 := num_gap v (i := 8 * T + 5 + 1 + 1) (by omega) (by omega)
    rw [addP_neg _ ((8 * T + 5 + 1 + 1 : Nat) : Int) _ (by rw [List.getD_eq_getElem?_getD, g7]; decide), addP_neg _ ((8 * T + 5 + 1 : Nat) : Int) _ (by rw [List.getD_eq_getElem?_getD, g6]; decide)]
    rw [h1, List.getD_eq_getElem?_getD, List.getD_eq_getElem?_getD, h2]
end Go.Proofs.Ytfocelelbcepnaa
