/- Links: growing. -/
import Derived.Test.YtbkhmgcfgfcilaaFlowAFind
import Derived.Test.YtbkhmgcfgfcilaaFlowAGrowR
import Derived.Test.YtbkhmgcfgfcilaaFlowAClo
import Derived.Test.YtbkhmgcfgfcilaaFlowACode2
set_option linter.unusedVariables false
set_option linter.unusedSimpArgs false
set_option maxHeartbeats 1000000
set_option maxRecDepth 20000
namespace Go.Proofs.Ytbkhmgcfgfcilaa
open Go.Proofs.Ytbkhmgcfgfcilaa.PM

noncomputable def tbG : Table := ⟨[(16, pg16), (5, pf5), (6, pf6)], fun f args => if f = 16 ∨ f = 5 ∨ f = 6 then none else R tb f args,
  fun f args H => match natC f args H with | some r => some r | none => match natI f args H with | some r => some r | none => if f = 24 ∨ f = 27 then RO tb f args H else none, fun _ _ => none, fun _ _ => none⟩
theorem tbG_ok : TOk Try.prog tbG := ⟨List.forall_mem_cons.2 ⟨pg16_ok, List.forall_mem_cons.2 ⟨pf5_ok, List.forall_mem_cons.2 ⟨pf6_ok, fun _ h => (List.not_mem_nil h).elim⟩⟩⟩,
  fun f args r h => by
    change (if f = 16 ∨ f = 5 ∨ f = 6 then none else R tb f args) = _ at h
    split at h
    · exact absurd h (by simp)
    · exact (R_ok tb_ok h),
  fun f args H r H' h => by
    change (match natC f args H with | some r => some r | none => match natI f args H with | some r => some r | none => if f = 24 ∨ f = 27 then RO tb f args H else none) = _ at h
    split at h
    · rename_i q hq
      simp only [Option.some.injEq] at h
      subst h
      exact natC_ok _ _ _ _ _ hq
    · split at h
      · rename_i q hq
        simp only [Option.some.injEq] at h
        subst h
        exact natI_ok _ _ _ _ _ hq
      · split at h
        · exact RO_ok tb_ok h
        · exact absurd h (by simp),
  fun _ _ _ h => (by cases h), fun _ _ _ h => (by cases h), (by kernel_rfl)⟩
theorem R_nat {T : Table} {f : Nat} {args : List PV} {r : PV} (hn : T.nat f args = some r) : R T f args = some r := by
  unfold R callP
  rw [hn]
theorem RO_nat {T : Table} {f : Nat} {args : List PV} {H H' : Hp} {r : PV} (hn : T.natO f args H = some (r, H')) : RO T f args H = some (r, H') := by
  unfold RO callO
  rw [hn]

theorem G2 {f : Nat} {args : List PV} {r : PV} (hf : ¬ (f = 16 ∨ f = 5 ∨ f = 6)) (h : R tb f args = some r) : R tbG f args = some r := by
  refine R_nat ?_
  show (if f = 16 ∨ f = 5 ∨ f = 6 then none else R tb f args) = _
  rw [if_neg hf, h]
theorem GC {nl : Nl} {H : Hp} : RO tbG 24 [lst nl ([] : List Lk)] H = some (lst .ex ([] : List Lk), H) := by
  refine RO_nat ?_
  with_unfolding_all rfl
theorem natC_24 (nl : Nl) (s : Lk) (r : List Lk) {H : Hp} : natC 24 [lst nl (s :: r)] H = none := by with_unfolding_all rfl
theorem natI_24 (a : PV) {H : Hp} : natI 24 [a] H = none := by
  unfold natI
  split
  · rename_i h
    cases h
  · rfl
theorem GK {ls : List Lk} {H : Hp} (h0 : ls ≠ []) (hl : ls.length ≤ 10000) : RO tbG 24 [lst .any ls] H = some (mls Lk H.length 1 ls.length, H ++ [bk 36 1 ls]) := by
  refine RO_nat ?_
  show (match natC 24 [lst .any ls] H with | some r => some r | none => match natI 24 [lst .any ls] H with | some r => some r | none => if 24 = 24 ∨ 24 = 27 then RO tb 24 [lst .any ls] H else none) = _
  cases ls with
  | nil => exact absurd rfl h0
  | cons s r =>
    rw [natC_24, natI_24]
    simp only [true_or, if_true]
    have hq2 : evEqNil false (lst .any (s :: r)) (.list .nil 1 []) = some (.bool false) := rfl
    refine RO_of_G (F := pf24) rfl rfl rfl ?_
    simp (disch := first | omega | with_unfolding_all rfl) [pf24, env0_eq, hq2, -evEqNil, rep0, app_ex h0 hl]
theorem natC_27 {a b c : PV} {H : Hp} : natC 27 [a, b, c] H = none := by
  unfold natC
  split
  · rename_i h
    cases h
  · rfl
theorem natI_27 {b gen n vb vgen : Nat} {i : Int} {H : Hp} : natI 27 [.msl true b gen 0 n 3, .int .i64 i, .msl true vb vgen 0 1 3] H =
      (H[b]?).bind fun B => (H[vb]?).bind fun V => if B.gen = gen ∧ B.e = 36 ∧ V.gen = vgen ∧ B.xs.length = n * 3 ∧ V.xs.length = 3 ∧ 0 ≤ i ∧ i < n ∧ b ≠ vb ∧ (n + 1) * 24 ≤ 140737488355328 then
        some (.msl true b (gen + 1) 0 (n + 1) 3, H.set b ⟨36, gen + 1, B.xs.take (i.toNat * 3) ++ (V.xs ++ B.xs.drop (i.toNat * 3))⟩) else none := by
  with_unfolding_all rfl
theorem natO_27 {args : List PV} {H : Hp} (hC : natC 27 args H = none) : tbG.natO 27 args H = match natI 27 args H with | some r => some r | none => RO tb 27 args H := by
  show (match natC 27 args H with | some r => some r | none => match natI 27 args H with | some r => some r | none => if 27 = 24 ∨ 27 = 27 then RO tb 27 args H else none) = _
  rw [hC, if_pos (.inr rfl)]
/-- A link is put in, ahead of the end. -/
theorem insert_mid {ls : List Lk} {l : Lk} {p : Nat} (hp : p < ls.length) (hl : ls.length ≤ 10000) (X : Blk) : RO tbG 27 [mls Lk 1 1 ls.length, .int .i64 p, mls Lk 2 0 1] [X, bk 36 1 ls, bk 36 0 [l]] = some (mls Lk 1 2 (ls.length + 1), [X, bk 36 2 (ls.take p ++ l :: ls.drop p), bk 36 0 [l]]) := by
  refine RO_nat ?_
  rw [natO_27 natC_27]
  have h := natI_27 (b := 1) (gen := 1) (n := ls.length) (vb := 2) (vgen := 0) (i := p) (H := [X, bk 36 1 ls, bk 36 0 [l]])
  rw [show [X, bk 36 1 ls, bk 36 0 [l]][1]? = some (bk 36 1 ls) from rfl, show [X, bk 36 1 ls, bk 36 0 [l]][2]? = some (bk 36 0 [l]) from rfl] at h
  simp only [Option.bind_some] at h
  rw [if_pos ⟨trivial, trivial, trivial, length_cl ls, length_cl [l], by omega, by omega, by omega, by omega⟩] at h
  rw [show natI 27 [mls Lk 1 1 ls.length, .int .i64 p, mls Lk 2 0 1] [X, bk 36 1 ls, bk 36 0 [l]] = _ from h]
  simp only [Int.toNat_natCast]
  have e1 : (cl ls).take (p * 3) = cl (ls.take p) := take_cl (α := Lk) _ _
  have e2 : (cl ls).drop (p * 3) = cl (ls.drop p) := drop_cl (α := Lk) _ _
  simp only [bk]
  rw [e1, e2, ← cl_append, ← cl_append]
  rfl
theorem insert_end {ls : List Lk} {l : Lk} (h0 : ls ≠ []) (hl : ls.length ≤ 10000) (X : Blk) : RO tbG 27 [mls Lk 1 1 ls.length, .int .i64 ls.length, mls Lk 2 0 1] [X, bk 36 1 ls, bk 36 0 [l]] = some (mls Lk 1 2 (ls.length + 1), [X, bk 36 2 (ls ++ [l]), bk 36 0 [l]]) := by
  refine RO_nat ?_
  rw [natO_27 natC_27]
  have h := natI_27 (b := 1) (gen := 1) (n := ls.length) (vb := 2) (vgen := 0) (i := ls.length) (H := [X, bk 36 1 ls, bk 36 0 [l]])
  rw [show [X, bk 36 1 ls, bk 36 0 [l]][1]? = some (bk 36 1 ls) from rfl, show [X, bk 36 1 ls, bk 36 0 [l]][2]? = some (bk 36 0 [l]) from rfl] at h
  simp only [Option.bind_some] at h
  rw [if_neg (by omega)] at h
  rw [show natI 27 [mls Lk 1 1 ls.length, .int .i64 ls.length, mls Lk 2 0 1] [X, bk 36 1 ls, bk 36 0 [l]] = _ from h]
  refine RO_of_G (F := pf27) rfl rfl rfl ?_
  have hm : maxLen = 9223372036854775807 := rfl
  have hn0 : ls.length ≠ 0 := fun h => h0 (List.length_eq_zero_iff.1 h)
  have hs : evSlc 3 (mls Lk 1 1 ls.length) (some (.int .i64 ls.length)) none none = some (.msl true 1 1 (ls.length * 3) 0 3) := by
    simp [mls, evSlc, optIx]
  have ha : evApp 36 3 24 (mls Lk 1 1 ls.length) (mls Lk 2 0 1) [X, bk 36 1 ls, bk 36 0 [l]] = some (mls Lk 1 2 (ls.length + 1), [X, bk 36 2 (ls ++ [l]), bk 36 0 [l]]) := by
    have := evApp_mls (α := Lk) (xs := ls) (ys := [l]) (e := 36) (s := 3) (bytes := 24) (b := 1) (gen := 1) (n := ls.length) (x := mls Lk 2 0 1) (H := [X, bk 36 1 ls, bk 36 0 [l]]) rfl rfl (by simp) rfl rfl (by simp; omega)
    simpa using this
  simp (disch := first | omega | with_unfolding_all rfl) [pf27, env0_eq, hs, ha]
theorem insert_nil {l : Lk} (X : Blk) : RO tbG 27 [lst .ex ([] : List Lk), .int .i64 0, mls Lk 1 0 1] [X, bk 36 0 [l]] = some (mls Lk 2 1 1, [X, bk 36 0 [l], bk 36 1 [l]]) := by
  refine RO_nat ?_
  rw [natO_27 natC_27]
  rw [show natI 27 [lst .ex ([] : List Lk), .int .i64 0, mls Lk 1 0 1] [X, bk 36 0 [l]] = none by with_unfolding_all rfl]
  refine RO_of_G (F := pf27) rfl rfl rfl ?_
  have hm : maxLen = 9223372036854775807 := rfl
  have ha : evApp 36 3 24 (lst .ex ([] : List Lk)) (mls Lk 1 0 1) [X, bk 36 0 [l]] = some (mls Lk 2 1 1, [X, bk 36 0 [l], bk 36 1 [l]]) := by
    have := evApp_lst (α := Lk) (nl := .ex) (xs := []) (ys := [l]) (e := 36) (s := 3) (bytes := 24) (x := mls Lk 1 0 1) (H := [X, bk 36 0 [l]]) rfl (.inr rfl) rfl (by simp) (by simp)
    simpa using this
  simp (disch := first | omega | with_unfolding_all rfl) [pf27, env0_eq, ha]
theorem getElem?_two {α : Type} (a b c : α) : [a, b, c][2]? = some c := rfl
theorem getElem?_one' {α : Type} (a b c : α) : [a, b, c][1]? = some b := rfl
theorem grow_ok (n : Int) (ls : List Lk) (hl : ls.length ≤ 9000) (f t r : Int) :
    R tbG 16 [.int .i64 n, lst .any ls, .int .i64 f, .int .i64 t, .int .i64 r] = some (if growErr n ls ⟨f, t, r⟩ ≠ 0 then .tup [.list .nil 1 [], .int .i64 (growErr n ls ⟨f, t, r⟩)] else .tup [lst .any (gr ⟨f, t, r⟩ ls), .int .i64 0]) := by
  have hm : maxLen = 9223372036854775807 := rfl
  have hv := G2 (by decide) (validate_ok n .any ls (by omega))
  have hw := fun a b => G2 (by decide) (within_ok a b)
  refine R_of_G (F := pg16) rfl rfl rfl ?_
  simp (disch := first | omega | with_unfolding_all rfl) [pg16, env0_eq, hv]
  by_cases h0 : valErr n ls = 0
  case neg => simp (disch := first | omega | with_unfolding_all rfl) [h0, growErr]
  have hgood := (good_iff n ls).1 h0
  have hn40 := hgood.1
  simp (disch := first | omega | with_unfolding_all rfl) [h0, hw]
  have c1 : (f < 0 ∨ n ≤ f ∨ t < 0 ∨ n ≤ t) ↔ ¬ (wi f (n - 1) = true ∧ wi t (n - 1) = true) := by
    simp only [wi, decide_eq_true_eq]
    omega
  refine G_grd (fun h1 => ?_) (fun h1 => ?_)
  case refine_2 =>
    have h2 : f < 0 ∨ n ≤ f ∨ t < 0 ∨ n ≤ t := c1.2 fun q => by simp [h1] at q
    have he : growErr n ls ⟨f, t, r⟩ = 2 := by
      unfold growErr
      rw [if_neg (by simpa using h0), if_pos h2]
    simp (disch := first | omega | with_unfolding_all rfl) [h1, he]
  simp (disch := first | omega | with_unfolding_all rfl) [h1, hw]
  refine G_br (fun h2 => ?_) (fun h2 => ?_)
  case refine_2 =>
    have h2 : f < 0 ∨ n ≤ f ∨ t < 0 ∨ n ≤ t := c1.2 fun q => by simp [h2] at q
    have he : growErr n ls ⟨f, t, r⟩ = 2 := by
      unfold growErr
      rw [if_neg (by simpa using h0), if_pos h2]
    simp (disch := first | omega | with_unfolding_all rfl) [he]
  have hin : ¬ (f < 0 ∨ n ≤ f ∨ t < 0 ∨ n ≤ t) := fun q => c1.1 q ⟨h1, h2⟩
  have hE : growErr n ls ⟨f, t, r⟩ = if r < 1 ∨ 1000000 < r ∨ f = t then 1 else 0 := by
    unfold growErr
    rw [if_neg (by simpa using h0), if_neg hin]
  simp (disch := first | omega | with_unfolding_all rfl) [h2]
  refine G_grdn (fun h3 => ?_) (fun h3 => ?_)
  case refine_2 =>
    rw [if_pos (by omega)] at hE
    simp (disch := first | omega | with_unfolding_all rfl) [h3, hE]
  simp (disch := first | omega | with_unfolding_all rfl) [h3]
  refine G_grdn (fun h4 => ?_) (fun h4 => ?_)
  case refine_2 =>
    rw [if_pos (by omega)] at hE
    simp (disch := first | omega | with_unfolding_all rfl) [h4, hE]
  simp (disch := first | omega | with_unfolding_all rfl) [h4]
  refine G_brd (fun h5 => ?_) (fun h5 => ?_)
  · rw [if_pos (by omega)] at hE
    simp (disch := first | omega | with_unfolding_all rfl) [hE]
  rw [if_neg (by omega)] at hE
  by_cases hz : ls = []
  · subst hz
    obtain ⟨p, hp, hp1, hp2, hsr⟩ := search_ok (nl := .ex) (ls := []) (l := ⟨f, t, r⟩) (by simp) List.Pairwise.nil
    have hsr := G2 (by decide) hsr
    simp only [vLk] at hsr
    obtain rfl : p = 0 := by simpa using hp
    have hf : fnd ⟨f, t, r⟩ [] 0 = false := rfl
    rw [hf] at hsr
    simp (disch := first | omega | with_unfolding_all rfl) [h5, hE, GC, hsr, gr]
    have hi : RO tbG 27 [lst .ex ([] : List Lk), .int .i64 0, .msl true 1 0 0 1 3] [⟨36, 0, [.int .i64 f, .int .i64 t, .int .i64 r]⟩, ⟨36, 0, [.int .i64 f, .int .i64 t, .int .i64 r]⟩] = some (mls Lk 2 1 1, [⟨36, 0, [.int .i64 f, .int .i64 t, .int .i64 r]⟩, ⟨36, 0, [.int .i64 f, .int .i64 t, .int .i64 r]⟩, bk 36 1 [(⟨f, t, r⟩ : Lk)]]) := insert_nil (l := ⟨f, t, r⟩) ⟨36, 0, [.int .i64 f, .int .i64 t, .int .i64 r]⟩
    simp (disch := first | omega | with_unfolding_all rfl) [hi, getElem?_two]
  · obtain ⟨p, hp, hp1, hp2, hsr⟩ := search_ok (nl := .bor) (l := ⟨f, t, r⟩) (show ls.length ≤ 10000 by omega) hgood.2.2
    have hg := gr_at ⟨f, t, r⟩ ls p hp hp1 fun h => hp2 p h (Nat.le_refl _)
    have hsr := G2 (by decide) hsr
    simp only [vLk] at hsr
    have hc := fun H => GK (H := H) hz (show ls.length ≤ 10000 by omega)
    simp (disch := first | omega | with_unfolding_all rfl) [h5, hE, hc, hsr]
    refine G_br (fun h6 => ?_) (fun h6 => ?_)
    · have hpl : p < ls.length := by
        apply Nat.lt_of_not_le
        intro q
        unfold fnd at h6
        rw [List.getElem?_eq_none q] at h6
        cases h6
      rw [dif_pos hpl, if_pos (by simpa [fnd, hpl] using h6)] at hg
      have hmx : (if ls[p].room < r then r else ls[p].room) = max ls[p].room r := by split <;> omega
      have hls : (ls.set p ⟨ls[p].fr, ls[p].to, max ls[p].room r⟩).length = ls.length := List.length_set
      rw [hg]
      simp (disch := first | omega | with_unfolding_all rfl) [h6, hpl, top, hmx, getElem?_one]
    · by_cases hpl : p < ls.length
      · rw [dif_pos hpl, if_neg (by simpa [fnd, hpl] using h6)] at hg
        rw [hg]
        have hi : RO tbG 27 [mls Lk 1 1 ls.length, .int .i64 p, .msl true 2 0 0 1 3] [⟨36, 0, [.int .i64 f, .int .i64 t, .int .i64 r]⟩, bk 36 1 ls, ⟨36, 0, [.int .i64 f, .int .i64 t, .int .i64 r]⟩] = some (mls Lk 1 2 (ls.length + 1), [⟨36, 0, [.int .i64 f, .int .i64 t, .int .i64 r]⟩, bk 36 2 (ls.take p ++ (⟨f, t, r⟩ : Lk) :: ls.drop p), ⟨36, 0, [.int .i64 f, .int .i64 t, .int .i64 r]⟩]) := insert_mid (l := ⟨f, t, r⟩) hpl (show ls.length ≤ 10000 by omega) ⟨36, 0, [.int .i64 f, .int .i64 t, .int .i64 r]⟩
        have hls : (ls.take p ++ (⟨f, t, r⟩ : Lk) :: ls.drop p).length = ls.length + 1 := by simp; omega
        simp (disch := first | omega | with_unfolding_all rfl) [h6, hi, getElem?_one', -List.length_append]
      · rw [dif_neg hpl] at hg
        obtain rfl : p = ls.length := by omega
        rw [hg]
        have hi : RO tbG 27 [mls Lk 1 1 ls.length, .int .i64 ls.length, .msl true 2 0 0 1 3] [⟨36, 0, [.int .i64 f, .int .i64 t, .int .i64 r]⟩, bk 36 1 ls, ⟨36, 0, [.int .i64 f, .int .i64 t, .int .i64 r]⟩] = some (mls Lk 1 2 (ls.length + 1), [⟨36, 0, [.int .i64 f, .int .i64 t, .int .i64 r]⟩, bk 36 2 (ls ++ [(⟨f, t, r⟩ : Lk)]), ⟨36, 0, [.int .i64 f, .int .i64 t, .int .i64 r]⟩]) := insert_end (l := ⟨f, t, r⟩) hz (show ls.length ≤ 10000 by omega) ⟨36, 0, [.int .i64 f, .int .i64 t, .int .i64 r]⟩
        have hls : (ls ++ [(⟨f, t, r⟩ : Lk)]).length = ls.length + 1 := by simp
        simp (disch := first | omega | with_unfolding_all rfl) [h6, hi, getElem?_one', -List.length_append]
theorem grows_ok (n : Int) (ls : List Lk) (f t r : Int) : R tbG 5 [.int .i64 n, lst .any ls, .int .i64 f, .int .i64 t, .int .i64 r] = some (.bool true) := by
  have hm : maxLen = 9223372036854775807 := rfl
  have h1 := G2 (by decide) (far_ok .any ls)
  have hk := G2 (by decide) known_ok
  refine R_of_G (F := pf5) rfl rfl rfl ?_
  simp (disch := first | omega | with_unfolding_all rfl) [pf5, env0_eq, h1]
  by_cases hl : 2000 < ls.length
  · simp (disch := first | omega | with_unfolding_all rfl) [hl, hk]
  have h2 := grow_ok n ls (by omega) f t r
  have h3 := G2 (by decide) (refGrow_ok n .any ls (by omega) f t r)
  by_cases he : growErr n ls ⟨f, t, r⟩ = 0
  · have hfl := gr_len ⟨f, t, r⟩ ls
    have h4 := G2 (by decide) (sameLks_ok .any .any (gr ⟨f, t, r⟩ ls) (by omega))
    simp (disch := first | omega | with_unfolding_all rfl) [hl, h2, h3, he, h4, hk]
  · have h4 : R tbG 14 [.list .nil 1 [], .list .nil 1 []] = some (.bool true) := G2 (by decide) (R_of (n := 100) (by kernel_rfl))
    simp (disch := first | omega | with_unfolding_all rfl) [hl, h2, h3, he, h4, hk]
theorem order_ok (n : Int) (ls : List Lk) (a b : Lk) : R tbG 6 [.int .i64 n, lst .any ls, vLk a, vLk b] = some (.bool true) := by
  obtain ⟨a1, a2, a3⟩ := a
  obtain ⟨b1, b2, b3⟩ := b
  have hm : maxLen = 9223372036854775807 := rfl
  have h1 := G2 (by decide) (far_ok .any ls)
  have hk := G2 (by decide) known_ok
  refine R_of_G (F := pf6) rfl rfl rfl ?_
  simp (disch := first | omega | with_unfolding_all rfl) [pf6, env0_eq, h1]
  by_cases hl : 2000 < ls.length
  · simp (disch := first | omega | with_unfolding_all rfl) [hl, hk]
  have h2 := grow_ok n ls (by omega) a1 a2 a3
  have h3 := grow_ok n ls (by omega) b1 b2 b3
  by_cases ha : growErr n ls ⟨a1, a2, a3⟩ = 0
  case neg =>
    rw [if_pos ha] at h2
    by_cases hb : growErr n ls ⟨b1, b2, b3⟩ = 0
    · rw [if_neg (by simpa using hb)] at h3
      simp (disch := first | omega | with_unfolding_all rfl) [hl, h2, h3, ha, hk]
    · rw [if_pos hb] at h3
      simp (disch := first | omega | with_unfolding_all rfl) [hl, h2, h3, ha, hk]
  rw [if_neg (by simpa using ha)] at h2
  by_cases hb : growErr n ls ⟨b1, b2, b3⟩ = 0
  case neg =>
    rw [if_pos hb] at h3
    simp (disch := first | omega | with_unfolding_all rfl) [hl, h2, h3, hb, hk]
  rw [if_neg (by simpa using hb)] at h3
  obtain ⟨a, hA⟩ : ∃ a : Lk, a = ⟨a1, a2, a3⟩ := ⟨_, rfl⟩
  obtain ⟨b, hB⟩ : ∃ b : Lk, b = ⟨b1, b2, b3⟩ := ⟨_, rfl⟩
  rw [← hA] at h2 ha
  rw [← hB] at h3 hb
  obtain ⟨hg, hoa⟩ := growErr_0.1 ha
  obtain ⟨_, hob⟩ := growErr_0.1 hb
  have hga := gr_good hg hoa
  have hgb := gr_good hg hob
  have l1 := gr_len a ls
  have l2 := gr_len b ls
  have l3 := gr_len b (gr a ls)
  have h4 := grow_ok n (gr a ls) (by omega) b1 b2 b3
  have h5 := grow_ok n (gr b ls) (by omega) a1 a2 a3
  have e1 : growErr n (gr a ls) b = 0 := growErr_0.2 ⟨hga, hob⟩
  have e2 : growErr n (gr b ls) a = 0 := growErr_0.2 ⟨hgb, hoa⟩
  rw [← hB, if_neg (by simpa using e1)] at h4
  rw [← hA, if_neg (by simpa using e2), gr_comm a b ls] at h5
  have h6 := G2 (by decide) (sameLks_ok .any .any (gr b (gr a ls)) (by omega))
  have h7 := G2 (by decide) (validate_ok n .any (gr b (gr a ls)) (by omega))
  rw [(good_iff n _).2 (gr_good hga hob)] at h7
  simp (disch := first | omega | with_unfolding_all rfl) [hl, h2, h3, h4, h5, h6, h7, hk]
end Go.Proofs.Ytbkhmgcfgfcilaa
