/- Links: the reference's growing. -/
import Derived.Test.YtbkhmgcfgfcilaaPmNineteen
import Derived.Test.YtbkhmgcfgfcilaaFlowAGr
import Derived.Test.YtbkhmgcfgfcilaaFlowAFade
set_option linter.unusedVariables false
set_option linter.unusedSimpArgs false
set_option maxHeartbeats 1000000
namespace Go.Proofs.Ytbkhmgcfgfcilaa
open Go.Proofs.Ytbkhmgcfgfcilaa.PM

def hit (f t : Int) (ls : List Lk) (i : Nat) : Bool := match ls[i]? with | some l => decide (l.fr = f) && decide (l.to = t) | none => false
def plc (f t : Int) (ls : List Lk) : Option Nat := (List.range ls.length).find? (hit f t ls)
def plcI (f t : Int) (ls : List Lk) : Int := match plc f t ls with | some i => i | none => -1
theorem plc_some {f t : Int} {ls : List Lk} {i : Nat} (hi : i < ls.length) (hz : ∀ j, j < i → hit f t ls j = false) (h : hit f t ls i = true) : plc f t ls = some i := by
  unfold plc
  rw [List.find?_range_eq_some]
  exact ⟨h, List.mem_range.2 hi, fun j hj => by simp [hz j hj]⟩
theorem plc_none {f t : Int} {ls : List Lk} (hz : ∀ j, j < ls.length → hit f t ls j = false) : plc f t ls = none := by
  unfold plc
  rw [List.find?_eq_none]
  intro j hj
  simp [hz j (List.mem_range.1 hj)]
theorem plc_no {f t : Int} {ls : List Lk} (h : plc f t ls = none) (i : Nat) (hi : i < ls.length) : ¬ (ls[i].fr = f ∧ ls[i].to = t) := by
  unfold plc at h
  rw [List.find?_eq_none] at h
  have := h i (List.mem_range.2 hi)
  simpa [hit, hi] using this
theorem gr_hit {f t r : Int} {ls : List Lk} {p : Nat} (hs : ls.Pairwise ltL) (h : plc f t ls = some p) : ∃ hp : p < ls.length, (ls[p].fr = f ∧ ls[p].to = t) ∧ gr ⟨f, t, r⟩ ls = ls.set p (top ls[p] ⟨f, t, r⟩) := by
  unfold plc at h
  rw [List.find?_range_eq_some] at h
  have hp := List.mem_range.1 h.2.1
  have he : ls[p].fr = f ∧ ls[p].to = t := by simpa [hit, hp] using h.1
  refine ⟨hp, he, ?_⟩
  rw [List.pairwise_iff_getElem] at hs
  rw [gr_at ⟨f, t, r⟩ ls p (by omega) (fun j hj hjp => ?_) (fun _ => ?_), dif_pos hp, if_pos he]
  · have := hs j p hj hp hjp
    unfold ltL at *
    dsimp only
    omega
  · unfold ltL
    dsimp only
    omega
theorem grow_swap {ls : List Lk} (l : Lk) {j : Nat} (h0 : 0 < j) (hj : j ≤ ls.length) : ((ls.take j ++ l :: ls.drop j).set j ls[j - 1]).set (j - 1) l = ls.take (j - 1) ++ l :: ls.drop (j - 1) := by
  have e1 : ls.take j = ls.take (j - 1) ++ [ls[j - 1]] := by
    conv => lhs; rw [show j = j - 1 + 1 by omega]
    rw [List.take_add_one, List.getElem?_eq_getElem (show j - 1 < ls.length by omega)]
    rfl
  have e2 : ls.drop (j - 1) = ls[j - 1] :: ls.drop j := by
    have := List.drop_eq_getElem_cons (l := ls) (i := j - 1) (by omega)
    rwa [show j - 1 + 1 = j by omega] at this
  have hA : (ls.take (j - 1)).length = j - 1 := by rw [List.length_take]; omega
  rw [e2, e1]
  generalize ls[j - 1] = x
  rw [List.set_append_right _ _ (by simp; omega)]
  rw [show j - (ls.take (j - 1) ++ [x]).length = 0 by simp; omega]
  rw [List.set_cons_zero, List.append_assoc, List.set_append_right _ _ (by omega), hA, Nat.sub_self]
  rfl
theorem grow_stop {ls : List Lk} {l : Lk} {j : Nat} (hs : ls.Pairwise ltL) (hne : ∀ i (hi : i < ls.length), ¬ (ls[i].fr = l.fr ∧ ls[i].to = l.to)) (hj : j ≤ ls.length) (hab : ∀ q (hq : q < ls.length), j ≤ q → ¬ ltL ls[q] l) (hst : (h : 0 < j) → ¬ ltL l ls[j - 1]) : gr l ls = ls.take j ++ l :: ls.drop j := by
  rw [List.pairwise_iff_getElem] at hs
  rw [gr_at l ls j hj (fun i hi hij => ?_) (fun h => hab j h (Nat.le_refl _))]
  · split
    · rename_i h
      rw [if_neg (hne j h)]
    · obtain rfl : j = ls.length := by omega
      simp
  · have h1 := hst (by omega)
    have h2 := hne (j - 1) (by omega)
    have h3 : ltL ls[j - 1] l := by unfold ltL at *; omega
    by_cases e : i = j - 1
    · subst e; exact h3
    · exact ltL_trans (hs i (j - 1) hi (by omega) (by omega)) h3
theorem place_ok (nl : Nl) (ls : List Lk) (f t : Int) (hl : ls.length ≤ 10000) : R tb 22 [lst nl ls, .int .i64 f, .int .i64 t] = some (.int .i64 (plcI f t ls)) := by
  refine R_of_G (F := pf22) rfl rfl rfl ?_
  simp (disch := first | omega | with_unfolding_all rfl) [pf22, env0_eq]
  refine G_scanC [0, 1, 2] 7 (hit f t ls) ls.length 0 (by simp) (Nat.zero_le _) ?_
  rintro i e - hi hz hk hci
  simp at hk
  simp (disch := first | omega | with_unfolding_all rfl) [hk, hci]
  refine G_brd (fun h => ?_) (fun h => ?_)
  · simp (disch := first | omega | with_unfolding_all rfl) [h]
    refine G_grdd (fun h1 => ?_) (fun h1 => ?_)
    · simp (disch := first | omega | with_unfolding_all rfl) [h, h1]
      refine G_brd (fun h2 => ?_) (fun h2 => ?_)
      · have h3 : plcI f t ls = i := by
          unfold plcI
          rw [plc_some h (fun j hj => hz j (Nat.zero_le _) hj) (by simp [hit, h, h1, h2])]
        simp (disch := first | omega | with_unfolding_all rfl) [h2, h3]
      · simp (disch := first | omega | with_unfolding_all rfl) [h2, hit, h]
    · simp (disch := first | omega | with_unfolding_all rfl) [h1, hit, h]
  · have h2 : plcI f t ls = -1 := by
      unfold plcI
      rw [plc_none fun j hj => hz j (Nat.zero_le _) (by omega)]
    simp (disch := first | omega | with_unfolding_all rfl) [h, h2]
theorem rep0 (z : List PV) : rep 0 z = [] := by simp [rep]
theorem app_ex0 (nl : Nl) (H : Hp) : evApp 36 3 24 (.list .ex 3 []) (lst nl ([] : List Lk)) H = some (.list .ex 3 [], H) :=
  evApp_nil (nl := .ex) (xs := ([] : List Lk)) (by rw [srcOf_lst]; rfl)
theorem app_ex {nl : Nl} {ls : List Lk} (h0 : ls ≠ []) (hl : ls.length ≤ 10000) (H : Hp) : evApp 36 3 24 (.list .ex 3 []) (lst nl ls) H = some (mls Lk H.length 1 ls.length, H ++ [bk 36 1 ls]) := by
  have := evApp_lst (nl := .ex) (xs := ([] : List Lk)) (ys := ls) (H := H) (e := 36) (s := 3) (bytes := 24) (x := lst nl ls) rfl (.inr rfl) (by rw [srcOf_lst]; rfl) h0 (by simp; omega)
  rwa [List.length_nil, Nat.zero_add, List.nil_append] at this
theorem app_ex1 (nl : Nl) (l : Lk) (H : Hp) : evApp 36 3 24 (.list .ex 3 []) (lst nl [l]) H = some (mls Lk H.length 1 1, H ++ [bk 36 1 [l]]) := app_ex (by simp) (by simp) H
theorem getElem?_one {α : Type} (a b : α) : [a, b][1]? = some b := rfl
theorem refGrow_ok (n : Int) (nl : Nl) (ls : List Lk) (hl : ls.length ≤ 2000) (f t r : Int) :
    R tb 15 [.int .i64 n, lst nl ls, .int .i64 f, .int .i64 t, .int .i64 r] = some (if growErr n ls ⟨f, t, r⟩ ≠ 0 then .tup [.list .nil 1 [], .int .i64 (growErr n ls ⟨f, t, r⟩)] else .tup [lst .any (gr ⟨f, t, r⟩ ls), .int .i64 0]) := by
  have hm : maxLen = 9223372036854775807 := rfl
  have hv := refValidate_ok n nl ls (by omega)
  refine R_of_G (F := pf15) rfl rfl rfl ?_
  simp (disch := first | omega | with_unfolding_all rfl) [pf15, env0_eq, hv]
  by_cases h0 : valErr n ls = 0
  case neg => simp (disch := first | omega | with_unfolding_all rfl) [h0, growErr]
  simp (disch := first | omega | with_unfolding_all rfl) [h0]
  refine G_grdn (fun h1 => ?_) (fun h1 => ?_)
  case refine_2 => simp (disch := first | omega | with_unfolding_all rfl) [h1, h0, growErr]
  simp (disch := first | omega | with_unfolding_all rfl) [h1]
  refine G_grdn (fun h2 => ?_) (fun h2 => ?_)
  case refine_2 => simp (disch := first | omega | with_unfolding_all rfl) [h2, h0, growErr]
  simp (disch := first | omega | with_unfolding_all rfl) [h2]
  refine G_grdn (fun h3 => ?_) (fun h3 => ?_)
  case refine_2 => simp (disch := first | omega | with_unfolding_all rfl) [h3, h0, growErr]
  simp (disch := first | omega | with_unfolding_all rfl) [h3]
  refine G_brd (fun h4 => ?_) (fun h4 => ?_)
  · simp (disch := first | omega | with_unfolding_all rfl) [h4, h0, growErr]
  simp (disch := first | omega | with_unfolding_all rfl) [h4]
  refine G_grdn (fun h5 => ?_) (fun h5 => ?_)
  case refine_2 =>
    have : ¬ (f < 0 ∨ n ≤ f ∨ t < 0 ∨ n ≤ t) := by omega
    simp (disch := first | omega | with_unfolding_all rfl) [h5, h0, growErr, this]
  simp (disch := first | omega | with_unfolding_all rfl) [h5]
  refine G_grdn (fun h6 => ?_) (fun h6 => ?_)
  case refine_2 =>
    have : ¬ (f < 0 ∨ n ≤ f ∨ t < 0 ∨ n ≤ t) := by omega
    simp (disch := first | omega | with_unfolding_all rfl) [h6, h0, growErr, this]
  simp (disch := first | omega | with_unfolding_all rfl) [h6]
  refine G_brd (fun h7 => ?_) (fun h7 => ?_)
  · have : ¬ (f < 0 ∨ n ≤ f ∨ t < 0 ∨ n ≤ t) := by omega
    have he : growErr n ls ⟨f, t, r⟩ = 1 := by
      unfold growErr
      rw [if_neg (by simpa using h0), if_neg this, if_pos (.inr (.inr h7))]
    subst h7
    simp (disch := first | omega | with_unfolding_all rfl) [he]
  have he : growErr n ls ⟨f, t, r⟩ = 0 := growErr_0.2 ⟨(good_iff n ls).1 h0, by unfold okL; dsimp only; omega⟩
  obtain ⟨l, hlD⟩ : ∃ l : Lk, l = ⟨f, t, r⟩ := ⟨_, rfl⟩
  have hgood := (good_iff n ls).1 h0
  by_cases hz : ls = []
  · subst hz
    have hp : R tb 22 [lst .any ([] : List Lk), .int .i64 f, .int .i64 t] = some (.int .i64 (-1)) := place_ok .any [] f t (by simp)
    have hp2 : R tb 22 [.list .ex 3 [], .int .i64 f, .int .i64 t] = some (.int .i64 (-1)) := place_ok .ex [] f t (by simp)
    simp (disch := first | omega | with_unfolding_all rfl) [h7, he, hp, hp2, gr, rep0, app_ex0, app_ex1, getElem?_one]
    refine G_loopK [13, 14, 16] (fun (_ : Nat) e h => h = [(⟨36, 0, [.int .i64 f, .int .i64 t, .int .i64 r]⟩ : Blk), bk 36 1 [(⟨f, t, r⟩ : Lk)]]) (fun _ => 0) (a₀ := 0) rfl ?_
    rintro _ e h hk rfl
    simp at hk
    simp (disch := first | omega | with_unfolding_all rfl) [hk, getElem?_one]
  · simp (disch := first | omega | with_unfolding_all rfl) [h7, he, hz, place_ok, rep0, app_ex hz (show ls.length ≤ 10000 by omega)]
    cases hp : plc f t ls with
    | some p =>
      have hpI : plcI f t ls = p := by simp [plcI, hp]
      obtain ⟨hpl, hpe, hg⟩ := gr_hit (r := r) hgood.2.2 hp
      rw [hg]
      have hmx : (if ls[p].room < r then r else ls[p].room) = max ls[p].room r := by split <;> omega
      have hls : (ls.set p ⟨ls[p].fr, ls[p].to, max ls[p].room r⟩).length = ls.length := List.length_set
      simp (disch := first | omega | with_unfolding_all rfl) [hpI, hpl, top, hmx, getElem?_one]
    | none =>
      have hpI : plcI f t ls = -1 := by simp [plcI, hp]
      have hne := plc_no hp
      simp (disch := first | omega | with_unfolding_all rfl) [hpI]
      refine G_loopK [13, 14] (fun (j : Nat) e h => j ≤ ls.length ∧ (∀ q (hq : q < ls.length), j ≤ q → ¬ ltL ls[q] ⟨f, t, r⟩) ∧ get e 16 = .int .i64 (j : Int) ∧ h = [(⟨36, 0, [.int .i64 f, .int .i64 t, .int .i64 r]⟩ : Blk), bk 36 2 (ls.take j ++ (⟨f, t, r⟩ : Lk) :: ls.drop j)]) (fun j => j) (a₀ := ls.length) ?_ ?_
      · exact ⟨Nat.le_refl _, fun q hq hq' => by omega, by simp, by simp⟩
      rintro j e h hk ⟨hj, hab, g16, rfl⟩
      simp at hk
      obtain ⟨L, hL⟩ : ∃ L, L = ls.take j ++ (⟨f, t, r⟩ : Lk) :: ls.drop j := ⟨_, rfl⟩
      have hLl : L.length = ls.length + 1 := by rw [hL]; simp; omega
      have hLj : L[j]? = some ⟨f, t, r⟩ := by
        rw [hL, List.getElem?_append_right (by simp; omega)]
        simp [Nat.min_eq_left hj]
      rw [← hL]
      simp (disch := first | omega | with_unfolding_all rfl) [hk, g16, getElem?_one]
      refine G_grdd (fun h1 => ?_) (fun h1 => ?_)
      · have hj1 : ls[j - 1]? = L[j - 1]? := by
          rw [hL, List.getElem?_append_left (by simp; omega), List.getElem?_take, if_pos (by omega)]
        simp (disch := first | omega | with_unfolding_all rfl) [hk, g16, h1, getElem?_one]
        have hjL : j - 1 < ls.length := by omega
        have hLx : L[j - 1] = ls[j - 1] := by
          have := hj1
          rw [List.getElem?_eq_getElem hjL, List.getElem?_eq_getElem (by omega)] at this
          simpa using this.symm
        have hLl2 : L[j] = ⟨f, t, r⟩ := by
          rw [List.getElem?_eq_getElem (by omega)] at hLj
          simpa using hLj
        have hle := less_ok ⟨f, t, r⟩ ls[j - 1]
        rw [less_lt] at hle
        obtain ⟨b, hb⟩ : ∃ b, b = decide (ltL ⟨f, t, r⟩ ls[j - 1]) := ⟨_, rfl⟩
        rw [← hb] at hle
        simp only [hLx, hLl2]
        simp only [vLk] at hle
        rw [hle]
        simp (disch := first | omega | with_unfolding_all rfl) [-not_or, hk, g16, h1, getElem?_one]
        refine G_br (fun h2 => ?_) (fun h2 => ?_) <;> rw [h2] at hb <;> simp only [true_eq_decide_iff, false_eq_decide_iff] at hb
        · have hsw : (L.set j ls[j - 1]).set (j - 1) ⟨f, t, r⟩ = ls.take (j - 1) ++ ⟨f, t, r⟩ :: ls.drop (j - 1) := by rw [hL]; exact grow_swap _ h1 hj
          have hls : (L.set j ⟨ls[j - 1].fr, ls[j - 1].to, ls[j - 1].room⟩).length = L.length := List.length_set
          simp (disch := first | omega | with_unfolding_all rfl) [-not_or, hk, g16, h1, getElem?_one, hLx, hLl2]
          refine ⟨j - 1, by omega, by omega, fun q hq hjq => ?_, by omega, ?_⟩
          · by_cases e : q = j - 1
            · subst e
              unfold ltL at hb
              dsimp only at hb
              omega
            · have := hab q hq (by omega)
              unfold ltL at this
              dsimp only at this
              omega
          · rw [← hsw]
        · have hg : gr ⟨f, t, r⟩ ls = L := by
            rw [hL]
            exact grow_stop hgood.2.2 hne hj hab fun _ => hb
          simp (disch := first | omega | with_unfolding_all rfl) [hk, g16, h1, getElem?_one, hg]
      · have hg : gr ⟨f, t, r⟩ ls = L := by
          rw [hL]
          exact grow_stop hgood.2.2 hne hj hab fun h => absurd h h1
        simp (disch := first | omega | with_unfolding_all rfl) [hk, g16, h1, getElem?_one, hg]
end Go.Proofs.Ytbkhmgcfgfcilaa
