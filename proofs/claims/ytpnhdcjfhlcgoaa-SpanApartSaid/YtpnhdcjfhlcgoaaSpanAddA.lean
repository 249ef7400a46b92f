/- Several texts in one: SpanAdd, SpanAdd2. -/
import Derived.Test.YtpnhdcjfhlcgoaaSpanMeet
import Derived.Test.YtpnhdcjfhlcgoaaSpanSortA
section
set_option linter.unusedVariables false
set_option linter.unusedSimpArgs false
set_option maxHeartbeats 4000000
set_option maxRecDepth 20000
namespace Go.Proofs.Ytpnhdcjfhlcgoaa
open Go.Proofs.Ytpnhdcjfhlcgoaa.PM

/-- The library's calls that adding needs. -/
noncomputable def natX (f : Nat) (args : List PV) (H : Hp) : Option (PV × Hp) := match natC f args H with | some r => some r | none => natS f args H
/-- The table with the sort. -/
noncomputable def tbS : Table := tbM natX
theorem tbS_ok : TOk Try.prog tbS := tbM_ok fun f args H r H' h => by
  unfold natX at h
  split at h
  · rename_i q hq
    simp only [Option.some.injEq] at h
    subst h
    exact natC_ok _ _ _ _ _ hq
  · exact natS_ok _ _ _ _ _ h
theorem natS_46 {a : List PV} {H : Hp} : natS 46 a H = none := by
  unfold natS
  split
  · rfl
  · rfl
theorem natD_46 {a : List PV} {H : Hp} : natD 46 a H = none := by
  unfold natD
  split
  · rfl
  · rfl
theorem natC_46 {nl : Nl} {H : Hp} : natC 46 [.list nl 4 []] H = some (.list .ex 4 [], H) := by
  with_unfolding_all rfl
theorem natX_46 (s : Sp) (r : List Sp) {H : Hp} : natX 46 [lst .any (s :: r)] H = none := by
  unfold natX
  rw [show natC 46 [lst .any (s :: r)] H = none by with_unfolding_all rfl, natS_46]
theorem natS_52 {b gen n : Nat} {H : Hp} : natS 52 [.msl true b gen 0 n 4, .clo (.func 53) [] []] H = (H[b]?).bind fun B => if B.gen = gen then (decS B.xs).bind fun zs => if zs.length = n ∧ n ≠ 0 ∧ n < 4611686018427387904 then some (.tup [], H.set b ⟨B.e, gen, cl (srtS zs)⟩) else none else none := by
  with_unfolding_all rfl
theorem natD_52 {a : List PV} {H : Hp} : natD 52 a H = none := by
  unfold natD
  split
  · rfl
  · rfl
theorem sortS_call {gen : Nat} {L : List Sp} (h0 : L ≠ []) (hl : L.length < 4611686018427387904) : RO (tbM natX) 52 [mls Sp 0 gen L.length, .clo (.func 53) [] []] [bk 26 gen L] = some (.tup [], [bk 26 gen (srtS L)]) := by
  have hn : L.length ≠ 0 := fun h => h0 (List.length_eq_zero_iff.1 h)
  refine Mn rfl natD_52 ?_
  unfold natX
  rw [show natC 52 [mls Sp 0 gen L.length, .clo (.func 53) [] []] [bk 26 gen L] = none by with_unfolding_all rfl]
  refine natS_52.trans ?_
  simp only [List.getElem?_cons_zero, Option.bind_some]
  rw [if_pos trivial]
  show (decS (cl L)).bind _ = _
  rw [decS_cl]
  simp only [Option.bind_some]
  rw [if_pos ⟨trivial, hn, hl⟩]
  rfl
theorem clone0 {nl : Nl} {H : Hp} : RO (tbM natX) 46 [lst nl ([] : List Sp)] H = some (lst .ex ([] : List Sp), H) := by
  refine Mn rfl natD_46 ?_
  unfold natX
  rw [show natC 46 [lst nl ([] : List Sp)] H = some (lst .ex ([] : List Sp), H) from natC_46]
/-- What adding makes. -/
def addE (l : Ld) (ss : List Sp) (s : Sp) : Int := if lstErr l ss ≠ 0 then lstErr l ss else if errS l s ≠ 0 then errS l s else if ss.any (mtS l l.w.toNat s) then 7 else if 40 ≤ ss.length then 10 else 0
def addN (l : Ld) (ss : List Sp) (s : Sp) : Int := if addE l ss s ≠ 0 then 0 else prI s.k (btw l.w.toNat s.a s.b).length
noncomputable def addV (l : Ld) (ss : List Sp) (s : Sp) : PV := if addE l ss s ≠ 0 then .list .nil 1 [] else lst .any (srtS (ss ++ [s]))
end Go.Proofs.Ytpnhdcjfhlcgoaa
end

section
set_option linter.unusedVariables false
set_option linter.unusedSimpArgs false
set_option maxHeartbeats 4000000
set_option maxRecDepth 20000
namespace Go.Proofs.Ytpnhdcjfhlcgoaa
open Go.Proofs.Ytpnhdcjfhlcgoaa.PM

theorem any_spn {f : Sp → Bool} {ss : List Sp} {i : Nat} (hi : i < ss.length) (h : f (spn ss i) = true) : ss.any f = true := by
  rw [List.any_eq_true]
  exact ⟨ss[i], List.getElem_mem hi, by rw [spn_get hi]; exact h⟩
theorem any_spn_no {f : Sp → Bool} {ss : List Sp} (h : ∀ i, i < ss.length → f (spn ss i) = false) : ss.any f = false := by
  rw [List.any_eq_false]
  intro x hx
  obtain ⟨i, hi, rfl⟩ := List.getElem_of_mem hx
  rw [spn_get hi, h i hi]
  simp
theorem add_ok {l : Ld} (hf : l.nl ≠ .bor) (hb : l.xs.length ≤ 3000) {snl : Nl} {ss : List Sp} (hsn : ss ≠ [] → snl = .any) (hss : ss.length ≤ 300) (s : Sp) :
    R tbS 28 [vL l, lst snl ss, vSpan s.k s.a s.b s.u] = some (.tup [addV l ss s, .int .i64 (addN l ss s), .int .i64 (addE l ss s)]) := by
  have h1 := M2 (n2 := natX) (list_ok hf hb (snl := snl) hss)
  have h2 := fun (h : landErr l = 0) => M2 (n2 := natX) (check_ok hf (good_nat h) s.k s.a s.b s.u)
  have h0 := fun h => lst_0 (l := l) (ss := ss) h
  have hgd := fun (h : landErr l = 0) => good_nat h
  have hE : addE l ss s = if lstErr l ss ≠ 0 then lstErr l ss else if errS l s ≠ 0 then errS l s else if ss.any (mtS l l.w.toNat s) then 7 else if 40 ≤ ss.length then 10 else 0 := rfl
  have hN : addN l ss s = if addE l ss s ≠ 0 then 0 else prI s.k (btw l.w.toNat s.a s.b).length := rfl
  have hV : addV l ss s = if addE l ss s ≠ 0 then .list .nil 1 [] else lst .any (srtS (ss ++ [s])) := rfl
  have hmt := fun (h : landErr l = 0) (s t : Sp) (A B C D : Nat) hA hB hC hD hab hcd hb hdd h1 h2 => meets_ok (n2 := natX) hf (good_nat h) (s := s) (t := t) (A := A) (B := B) (C := C) (D := D) hA hB hC hD hab hcd hb hdd h1 h2
  have hpr := fun (h : landErr l = 0) (s : Sp) (A B : Nat) (hk : s.k = 0 ∨ s.k = 1) (hab : A < B) (hB : B < l.w.toNat * l.h.toNat) (hd : byI l.w.toNat A B ≠ 0) hn => M2 (n2 := natX) (price_ok hf (good_nat h) (k := s.k) (u := s.u) hk hab hB hd hn)
  have hse : ∀ s, errS l s = sErr l l.w.toNat l.h.toNat s.k s.a s.b s.u := fun _ => rfl
  rw [← hse] at h2
  generalize addE l ss s = rE at *
  generalize addN l ss s = rN at *
  generalize addV l ss s = rV at *
  generalize hle : lstErr l ss = le at *
  generalize hes : errS l s = es at *
  generalize mtS l l.w.toNat = mt at *
  obtain ⟨w, hh, nl, xs⟩ := l
  dsimp only at hf h1 h2 hpr hse hmt hN
  change R (tbM natX) 28 _ = _
  refine R_of_G (F := pf28) (M_nat rfl) rfl rfl ?_
  by_cases c : le = 0
  case neg =>
    rw [if_pos c] at hE
    subst hE
    rw [if_pos c] at hN hV
    subst hN hV
    simp (disch := first | omega | with_unfolding_all rfl) [pf28, env0_eq, hf, h1, c]
  rw [if_neg (by omega)] at hE
  obtain ⟨h01, h02⟩ := h0 c
  have h2 := h2 h01
  have hpr := hpr h01
  have hmt := hmt h01
  simp (disch := first | omega | with_unfolding_all rfl) [pf28, env0_eq, hf, h1, c, h2]
  by_cases c1 : es = 0
  case neg =>
    rw [if_pos c1] at hE
    subst hE
    rw [if_pos c1] at hN hV
    subst hN hV
    simp (disch := first | omega | with_unfolding_all rfl) [c1]
  rw [if_neg (by omega)] at hE
  simp (disch := first | omega | with_unfolding_all rfl) [c1]
  have hs := hse s
  rw [hes, c1] at hs
  obtain ⟨hk, A, B, hA, hB, hab, hBN, hd, _, hnn⟩ := sErr_0 hs.symm
  rw [hA, hB] at hN
  have hpp := hpr s A B hk hab hBN hd (by omega)
  generalize prI s.k (btw w.toNat A B).length = p at *
  refine G_scan (fun i e h => h = [] ∧ get e 1 = lst snl ss ∧ get e 3 = .pptr (!(nl != .bor)) [.int .i64 w, .int .i64 hh, lst nl xs] 0 ∧ get e 5 = .pptr false [.int .i64 s.k, .int .i64 s.a, .int .i64 s.b, .int .i64 s.u] 0 ∧ get e 26 = lst snl ss ∧ get e 27 = .int .i64 (ss.length : Int) ∧ get e 28 = .int .i64 (i : Int))
    (fun i => mt s (spn ss i)) ss.length 0 ?_ (Nat.zero_le _) ?_
  · simp
  · rintro i e h - hi hz ⟨rfl, g1, g3, g5, g26, g27, g28⟩
    simp (disch := first | omega | with_unfolding_all rfl) [g1, g3, g5, g26, g27, g28]
    refine G_brd (fun hlt => ?_) (fun hlt => ?_)
    · have ht := h02 i hlt
      rw [hse] at ht
      obtain ⟨hk', C, D, hC, hD, hcd, hDN, hd', _, hnn'⟩ := sErr_0 ht
      have hm := hmt s (spn ss i) A B C D hA hB hC hD hab hcd hBN hDN hd hd'
      have hany : mt s (spn ss i) = true → ss.any (mt s) = true := fun h => any_spn hlt h
      generalize mt s (spn ss i) = m at *
      simp (disch := first | omega | with_unfolding_all rfl) [hlt, spn_get, hf, hm]
      cases m
      · simp (disch := first | omega | with_unfolding_all rfl) [trimOk]
      · rw [if_pos (hany rfl)] at hE
        subst hE
        rw [if_pos (by omega)] at hN hV
        subst hN hV
        simp (disch := first | omega | with_unfolding_all rfl) []
    · have hno : ss.any (mt s) = false := any_spn_no fun j hj => hz j (Nat.zero_le _) (by omega)
      rw [hno, if_neg (by simp)] at hE
      simp (disch := first | omega | with_unfolding_all rfl) [hlt]
      by_cases c2 : 40 ≤ ss.length
      · rw [if_pos c2] at hE
        subst hE
        rw [if_pos (by omega)] at hN hV
        subst hN hV
        have c2' : (40 : Int) ≤ ss.length := by omega
        simp (disch := first | omega | with_unfolding_all rfl) [c2']
      rw [if_neg c2] at hE
      subst hE
      rw [if_neg (by omega)] at hN hV
      subst hN hV
      have c2' : ¬ (40 : Int) ≤ ss.length := by omega
      simp (disch := first | omega | with_unfolding_all rfl) [c2']
      rw [hA, hB]
      have hsc := sortS_call (gen := if ss = [] then 1 else 2) (L := ss ++ [s]) (by simp) (by simp; omega)
      have hfz := fun n H gen => frzB_bk (α := Sp) (xs := srtS (ss ++ [s])) (nl' := .any) (n := n) (H := H) (gen := gen) (e := 26) (m := ss.length + 1) (by rw [len_srtS]; simp)
      have hl1 : (ss ++ [s]).length = ss.length + 1 := by simp
      rw [hl1] at hsc
      by_cases hne : ss = []
      · subst hne
        have hcl := clone0 (nl := snl) (H := [])
        have hap : evApp 26 4 32 (lst .ex ([] : List Sp)) (.list .ex 4 [.int .i64 s.k, .int .i64 A, .int .i64 B, .int .i64 s.u]) [] = some (mls Sp 0 1 1, [bk 26 1 [s]]) := by
          rw [← hA, ← hB]
          exact evApp_ex_lst (nl := .ex) (H := []) (ys := [s]) (by simp)
        rw [if_pos rfl] at hsc
        simp only [List.nil_append, List.length_nil, Nat.zero_add] at hsc hfz
        refine G_reg_chk ?_ ?_
        · refine all_cons_ck (ckOne_of rfl ?_) (all_cons_ck (ckOne_of rfl ?_) all_nil_ck)
          all_goals simp (disch := first | omega | with_unfolding_all rfl) [hcl]
        simp (disch := first | omega | with_unfolding_all rfl) [hcl, hap, hsc, hpp, hfz, hf]
      · obtain rfl := hsn hne
        have hcl := clone_ok (n2 := natX) (ss := ss) hss hne (by cases ss with | nil => exact absurd rfl hne | cons s r => exact natX_46 s r)
        have hap : evApp 26 4 32 (mls Sp 0 1 ss.length) (.list .ex 4 [.int .i64 s.k, .int .i64 A, .int .i64 B, .int .i64 s.u]) [bk 26 1 ss] = some (mls Sp 0 2 (ss.length + 1), [bk 26 2 (ss ++ [s])]) := by
          rw [← hA, ← hB]
          exact evApp_mls (ys := [s]) (H := [bk 26 1 ss]) (x := lst .ex [s]) rfl (by rw [srcOf_lst, if_pos (show 4 = Enc.sz Sp from rfl)]) (by simp) rfl rfl (by simp; omega)
        rw [if_neg hne] at hsc
        refine G_reg_chk ?_ ?_
        · refine all_cons_ck (ckOne_of rfl ?_) (all_cons_ck (ckOne_of rfl ?_) all_nil_ck)
          all_goals simp (disch := first | omega | with_unfolding_all rfl) [hcl]
        simp (disch := first | omega | with_unfolding_all rfl) [hcl, hap, hsc, hpp, hfz, hf]
end Go.Proofs.Ytpnhdcjfhlcgoaa
end
