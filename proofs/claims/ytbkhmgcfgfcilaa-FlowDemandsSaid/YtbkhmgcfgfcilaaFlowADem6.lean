/- Demand: the law. -/
import Derived.Test.YtbkhmgcfgfcilaaFlowADem5
set_option linter.unusedVariables false
set_option linter.unusedSimpArgs false
set_option maxHeartbeats 4000000
set_option maxRecDepth 20000
namespace Go.Proofs.Ytbkhmgcfgfcilaa
open Go.Proofs.Ytbkhmgcfgfcilaa.PM

/-- A row of a table, as one cell. -/
structure Rw where
  r : List Int
noncomputable def encRw (x : Rw) : List PV := [lst .any x.r]
theorem cl_inj : ∀ {xs ys : List Int}, cl xs = cl ys → xs = ys
  | [], [], _ => rfl
  | [], y :: ys, h => by simp [cl_cons] at h
  | x :: xs, [], h => by simp [cl_cons] at h
  | x :: xs, y :: ys, h => by
    simp only [cl_cons] at h
    have h1 : (PV.int .i64 x :: cl xs) = PV.int .i64 y :: cl ys := h
    simp only [List.cons.injEq, PV.int.injEq, true_and] at h1
    rw [h1.1, cl_inj h1.2]
theorem encRw_inj (x y : Rw) (h : encRw x = encRw y) : x = y := by
  obtain ⟨x⟩ := x
  obtain ⟨y⟩ := y
  unfold encRw lst at h
  simp only [List.cons.injEq, PV.list.injEq, true_and, and_true] at h
  rw [cl_inj h]
noncomputable instance : Enc Rw where
  sz := 1
  enc := encRw
  dec := decOf encRw
  cln _ := true
  pos := by decide
  len _ := rfl
  one _ := rfl
  pur x := by
    show (PV.pureB (.list .any 1 (cl x.r)) && true) = true
    simp [PV.pureB, pure_cl]
  hcln x := by
    show (PV.cleanB (.list .any 1 (cl x.r)) && true) = true
    simp [PV.cleanB, clean_cl]
  dec_enc := decOf_enc encRw_inj
  enc_dec _ _ := enc_decOf
@[simp] theorem sz_rw : Enc.sz Rw = 1 := rfl
@[simp] theorem enc_rw (x : Rw) : Enc.enc x = [lst .any x.r] := rfl
@[simp] theorem cln_rw (x : Rw) : Enc.cln x = true := rfl
theorem tab_lst (rows : List (List Int)) : tabV rows = lst .any (rows.map Rw.mk) := by
  show PV.list .any 1 _ = PV.list .any 1 (cl (rows.map Rw.mk))
  congr 1
  induction rows with
  | nil => rfl
  | cons r rows ih => rw [List.map_cons, List.map_cons, cl_cons, ih]; rfl

theorem sameI_ok {n1 n3 : Nl} {L : List Int} (hs : L.length ≤ 3000) : R tb 18 [lst n1 L, lst n3 L] = some (.bool true) := by
  refine R_of_G (F := pf18) rfl rfl rfl ?_
  simp (disch := first | omega | with_unfolding_all rfl) [pf18, env0_eq]
  refine G_loop (fun i e h => i ≤ L.length ∧ h = [] ∧ get e 0 = lst n1 L ∧ get e 1 = lst n3 L ∧ get e 5 = .int .i64 (i : Int)) (fun i => L.length - i) (a₀ := 0) ?_ ?_
  · simp
  rintro i e h ⟨hi, rfl, g0, g1, g5⟩
  simp (disch := first | omega | with_unfolding_all rfl) [g0, g1, g5]
  refine G_brd (fun hlt => ?_) (fun hlt => ?_)
  · simp (disch := first | omega | with_unfolding_all rfl) [hlt, zz_get]
    exact ⟨i + 1, by omega, by omega, by push_cast; rfl⟩
  · simp (disch := first | omega | with_unfolding_all rfl) [hlt]
theorem tables_nil : R tb 10 [.list .nil 1 [], .list .nil 1 []] = some (.bool true) := by
  refine R_of_G (F := pf10) rfl rfl rfl ?_
  simp (disch := first | omega | with_unfolding_all rfl) [pf10, env0_eq]
  rw [G_unroll]
  simp (disch := first | omega | with_unfolding_all rfl) []
theorem tables_ok {L : List Rw} (hs : L.length ≤ 3000) (hr : ∀ x ∈ L, x.r.length ≤ 3000) : R tb 10 [lst .any L, lst .any L] = some (.bool true) := by
  refine R_of_G (F := pf10) rfl rfl rfl ?_
  simp (disch := first | omega | with_unfolding_all rfl) [pf10, env0_eq]
  refine G_loop (fun i e h => i ≤ L.length ∧ h = [] ∧ get e 0 = lst .any L ∧ get e 1 = lst .any L ∧ get e 5 = .int .i64 (i : Int)) (fun i => L.length - i) (a₀ := 0) ?_ ?_
  · simp
  rintro i e h ⟨hi, rfl, g0, g1, g5⟩
  simp (disch := first | omega | with_unfolding_all rfl) [g0, g1, g5]
  refine G_brd (fun hlt => ?_) (fun hlt => ?_)
  · have hI := sameI_ok (n1 := .any) (n3 := .any) (L := L[i].r) (hr _ (List.getElem_mem hlt))
    simp (disch := first | omega | with_unfolding_all rfl) [hlt, hI]
    exact ⟨i + 1, by omega, by omega, by push_cast; rfl⟩
  · simp (disch := first | omega | with_unfolding_all rfl) [hlt]

def rws (S : List Int) : List Rw := (demRows S S.length).map Rw.mk
@[simp] theorem len_rws (S : List Int) : (rws S).length = S.length := by simp [rws]
theorem rws_get {S : List Int} {i : Nat} (h : i < (rws S).length) : (rws S)[i].r = demRow S i := by simp [rws, demRows]
theorem demands_ok {nl : Nl} (hf : nl ≠ .bor) {S : List Int} (hlen : S.length ≤ maxLen) : R tb 3 [lst nl S] = some (.bool true) := by
  have hm : maxLen = 9223372036854775807 := rfl
  refine R_of_G (F := pf3) rfl rfl rfl ?_
  by_cases c : 300 < S.length
  · have c' : (300 : Int) < S.length := by omega
    simp (disch := first | omega | with_unfolding_all rfl) [pf3, env0_eq, c', known_ok]
  have c' : ¬ (300 : Int) < S.length := by omega
  have h8 := demandR_ok hf (S := S) (by omega)
  have h9 := demand_ok hf (S := S) (by omega)
  by_cases c1 : demE S = 0
  case neg =>
    have hV : demV S = .list .nil 1 [] := by unfold demV; rw [if_neg c1]
    rw [hV] at h8 h9
    generalize demE S = rE at *
    simp (disch := first | omega | with_unfolding_all rfl) [pf3, env0_eq, c', h8, h9, tables_nil]
    rw [G_unroll]
    simp (disch := first | omega | with_unfolding_all rfl) [known_ok]
  obtain ⟨hl40, hS⟩ := demE_ok c1
  have hV : demV S = lst .any (rws S) := by unfold demV; rw [if_pos c1, tab_lst]; rfl
  have ht := tables_ok (L := rws S) (by simp; omega) (fun x hx => by
    unfold rws at hx
    rw [List.mem_map] at hx
    obtain ⟨r, hr, rfl⟩ := hx
    unfold demRows at hr
    rw [List.mem_map] at hr
    obtain ⟨b, _, rfl⟩ := hr
    rw [len_demRow]; omega)
  rw [hV, c1] at h8 h9
  have hlr := len_rws S
  have hrg := fun i (h : i < (rws S).length) => rws_get h
  generalize rws S = W at *
  simp (disch := first | omega | with_unfolding_all rfl) [pf3, env0_eq, c', h8, h9, ht]
  refine G_loop (fun i e h => i ≤ S.length ∧ h = [] ∧ get e 0 = lst nl S ∧ get e 5 = lst .any W ∧ get e 7 = .int .i64 (i : Int)) (fun i => S.length - i) (a₀ := 0) ?_ ?_
  · simp
  rintro i e h ⟨hi, rfl, g0, g5, g7⟩
  simp (disch := first | omega | with_unfolding_all rfl) [g0, g5, g7, hlr]
  refine G_brd (fun hlt => ?_) (fun hlt => ?_)
  · have hWi : i < W.length := by omega
    have hri := hrg i hWi
    have hrl : (demRow S i).length = S.length := len_demRow S i
    have hrs := row_sum hS hlt
    have hof : othS S i = sumN (fun b => if b = i then 0 else zz S b) S.length := oth_eq hlt
    have hsr : ∀ k, k ≤ S.length → 0 ≤ sumN (zz (demRow S i)) k ∧ sumN (zz (demRow S i)) k ≤ k * 2000000 := fun k hk => by
      have h1 := sumN_le (f := fun _ => 0) (g := zz (demRow S i)) k fun b hb => (row_rg hS hl40 hlt (by omega)).1
      have h2 := sumN_le (f := zz (demRow S i)) (g := fun _ => 2000000) k fun b hb => (row_rg hS hl40 hlt (by omega)).2
      rw [sumN_const] at h1 h2
      omega
    have horg : ∀ k, k ≤ S.length → 0 ≤ sumN (fun b => if b = i then 0 else zz S b) k ∧ sumN (fun b => if b = i then 0 else zz S b) k ≤ k * 1000000 := fun k hk => by
      have h1 := sumN_le (f := fun _ => 0) (g := fun b => if b = i then 0 else zz S b) k fun b hb => by
        split
        · omega
        · exact (hS b (by omega)).1
      have h2 := sumN_le (f := fun b => if b = i then 0 else zz S b) (g := fun _ => 1000000) k fun b hb => by
        split
        · omega
        · exact (hS b (by omega)).2
      rw [sumN_const] at h1 h2
      omega
    generalize hdi : demRow S i = D at *
    simp (disch := first | omega | with_unfolding_all rfl) [hlt]
    refine G_loop (fun k e h => k ≤ S.length ∧ h = [] ∧ get e 0 = lst nl S ∧ get e 5 = lst .any W ∧ get e 7 = .int .i64 (i : Int) ∧ get e 8 = .int .i64 (sumN (zz D) k) ∧ get e 9 = .int .i64 (sumN (fun b => if b = i then 0 else zz S b) k) ∧ get e 10 = .int .i64 (k : Int)) (fun k => S.length - k) (a₀ := 0) ?_ ?_
    · simp [sumN]
    clear g0 g5 g7
    rintro k e h ⟨hk, rfl, g0, g5, g7, g8, g9, g10⟩
    simp (disch := first | omega | with_unfolding_all rfl) [g0, g5, g7, g8, g9, g10, hWi, hri, hrl]
    refine G_brd (fun hlk => ?_) (fun hlk => ?_)
    · have hs1 := sumN_succ (zz D) k
      have hs2 := sumN_succ (fun b => if b = i then 0 else zz S b) k
      obtain ⟨a0, a1⟩ := hsr k hk
      obtain ⟨a2, a3⟩ := hsr (k + 1) (by omega)
      obtain ⟨b0, b1⟩ := horg k hk
      obtain ⟨b2, b3⟩ := horg (k + 1) (by omega)
      rw [hs1] at a2 a3
      rw [hs2] at b2 b3
      simp (disch := first | omega | with_unfolding_all rfl) [hlk, hWi, hri, hrl, zz_get]
      by_cases d1 : k = i
      · rw [if_pos d1] at hs2 b2 b3
        have d1' : (k : Int) = i := by omega
        simp (disch := first | omega | with_unfolding_all rfl) [d1']
        exact ⟨k + 1, by omega, by omega, by rw [hs1], by rw [hs2]; omega, by push_cast; omega⟩
      · rw [if_neg d1] at hs2 b2 b3
        have d1' : ¬ (k : Int) = i := by omega
        simp (disch := first | omega | with_unfolding_all rfl) [d1', hlk, zz_get]
        exact ⟨k + 1, by omega, by omega, by rw [hs1], by rw [hs2], by push_cast; rfl⟩
    · obtain rfl : k = S.length := by omega
      rw [← hof, hrs] at *
      by_cases d1 : 0 < othS S i
      · rw [if_pos d1] at *
        have d2 : ¬ othS S i = 0 := by omega
        simp (disch := first | omega | with_unfolding_all rfl) [d1, d2, hlt, zz_get]
        exact ⟨i + 1, by omega, by omega, by push_cast; rfl⟩
      · rw [if_neg d1] at *
        simp (disch := first | omega | with_unfolding_all rfl) [d1, hlt, zz_get]
        by_cases d3 : othS S i = 0
        · simp (disch := first | omega | with_unfolding_all rfl) [d3]
          exact ⟨i + 1, by omega, by omega, by push_cast; rfl⟩
        · simp (disch := first | omega | with_unfolding_all rfl) [d3]
          exact ⟨i + 1, by omega, by omega, by push_cast; rfl⟩
  · simp (disch := first | omega | with_unfolding_all rfl) [known_ok]
end Go.Proofs.Ytbkhmgcfgfcilaa
