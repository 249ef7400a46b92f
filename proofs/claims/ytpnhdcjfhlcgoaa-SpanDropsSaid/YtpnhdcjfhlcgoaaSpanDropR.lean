/- Spans: what dropping a span leaves: the document's answer; the law. -/
import Derived.Test.YtpnhdcjfhlcgoaaSpanDrop2
set_option linter.unusedVariables false
set_option linter.unusedSimpArgs false
set_option maxHeartbeats 4000000
set_option maxRecDepth 20000
namespace Go.Proofs.Ytpnhdcjfhlcgoaa
open Go.Proofs.Ytpnhdcjfhlcgoaa.PM
variable {n2 : Nat → List PV → Hp → Option (PV × Hp)}

theorem evApp_ex_nil {nl : Nl} {H : Hp} : evApp 26 4 32 (.list .ex 4 []) (lst nl ([] : List Sp)) H = some (.list .ex 4 [], H) := evApp_ex_lst (by simp)
theorem dropR_ok {l : Ld} (hf : l.nl ≠ .bor) (hb : l.xs.length ≤ 3000) {snl : Nl} {ss : List Sp} (hss : ss.length ≤ 300) (n : Int) :
    ∃ dn : Nl, R (tbM n2) 23 [vL l, lst snl ss, .int .i64 n] = some (.tup [dropV dn l ss n, .int .i64 (dropN l ss n), .int .i64 (dropE l ss n)]) := by
  refine ⟨if hdF ss n = some 0 ∧ ss.length = 1 then .ex else .any, ?_⟩
  generalize hdn : (if hdF ss n = some 0 ∧ ss.length = 1 then Nl.ex else Nl.any) = dn
  have h1 := M2 (n2 := n2) (listR_ok hf hb (snl := snl) hss)
  have h0 := fun h => lst_0 (l := l) (ss := ss) h
  have hE : dropE l ss n = if lstErr l ss ≠ 0 then lstErr l ss else match hdF ss n with | some _ => 0 | none => 2 := rfl
  have hN : dropN l ss n = if lstErr l ss ≠ 0 then 0 else match hdF ss n with | some i => back l (spn ss i) | none => 0 := rfl
  have hV : dropV dn l ss n = if lstErr l ss ≠ 0 then .list .nil 1 [] else match hdF ss n with | some i => lst dn (ss.take i ++ ss.drop (i + 1)) | none => .list .nil 1 [] := rfl
  have hpr := fun (h : landErr l = 0) (s : Sp) (A B : Nat) (hk : s.k = 0 ∨ s.k = 1) (hab : A < B) (hB : B < l.w.toNat * l.h.toNat) (hd : byI l.w.toNat A B ≠ 0) hn => M2 (n2 := n2) (priceR_ok hf (good_nat h) (k := s.k) (u := s.u) hk hab hB hd hn)
  have hse : ∀ s, errS l s = sErr l l.w.toNat l.h.toNat s.k s.a s.b s.u := fun _ => rfl
  have hbk : ∀ s, back l s = (prI s.k (btw l.w.toNat s.a s.b).length).tdiv 4 := fun _ => rfl
  generalize dropE l ss n = rE at *
  generalize dropN l ss n = rN at *
  generalize dropV dn l ss n = rV at *
  generalize hle : lstErr l ss = le at *
  obtain ⟨w, hh, nl, xs⟩ := l
  dsimp only at hf h1 hpr hse hbk
  refine R_of_G (F := pf23) (M_nat rfl) rfl rfl ?_
  by_cases c : le = 0
  case neg =>
    rw [if_pos c] at hE hN hV
    subst hE hN hV
    simp (disch := first | omega | with_unfolding_all rfl) [pf23, env0_eq, hf, h1, c]
  rw [if_neg (by omega)] at hE hN hV
  obtain ⟨h01, h02⟩ := h0 c
  have hpr := hpr h01
  simp (disch := first | omega | with_unfolding_all rfl) [pf23, env0_eq, hf, h1, c]
  refine G_scan (fun i e h => h = [] ∧ get e 1 = lst snl ss ∧ get e 2 = .int .i64 n ∧ get e 3 = .pptr (!(nl != .bor)) [.int .i64 w, .int .i64 hh, lst nl xs] 0 ∧ get e 10 = .int .i64 (i : Int))
    (fun i => isH n (spn ss i)) ss.length 0 ?_ (Nat.zero_le _) ?_
  · simp
  · rintro i e h - hi hz ⟨rfl, g1, g2, g3, g10⟩
    simp (disch := first | omega | with_unfolding_all rfl) [g1, g2, g3, g10]
    refine G_brd (fun hlt => ?_) (fun hlt => ?_)
    · have hI : isH n (spn ss i) = true → hdF ss n = some i := fun hb => firstN_some hlt hz hb
      have hs := h02 i hlt
      rw [hse] at hs
      obtain ⟨hk, A, B, hA, hB, hab, hBN, hd, _, hnn⟩ := sErr_0 hs
      have hpr := hpr (spn ss i) A B hk hab hBN hd (by omega)
      have hbk := hbk (spn ss i)
      rw [hA, hB] at hbk
      obtain ⟨hp1, hp2⟩ := prI_nn (n := (btw w.toNat A B).length) hk (by omega)
      generalize prI (spn ss i).k (btw w.toNat A B).length = p at *
      have h5 : IntKind.wrap .i64 (p.tdiv 4) = p.tdiv 4 := wrap_dv (by omega) (by omega) (by omega)
      have hpq : isH n (spn ss i) = (decide ((spn ss i).a = n) || decide ((spn ss i).b = n)) := rfl
      rw [hA, hB] at hpq
      by_cases hp : isH n (spn ss i) = true
      case neg =>
        have hp0 : isH n (spn ss i) = false := by simpa using hp
        rw [hp0] at hpq
        have q1 : ¬ (A : Int) = n := by intro q; simp [q] at hpq
        have q2 : ¬ (B : Int) = n := by intro q; simp [q] at hpq
        simp (disch := first | omega | with_unfolding_all rfl) [hlt, spn_get, hA, hB, q1, q2]
        simp [hp0, hlt]
      have hF := hI hp
      simp only [hF] at hE hN hV hdn
      rw [hE, hN, hV]
      have hr : rep 0 [PV.int .i64 0, PV.int .i64 0, PV.int .i64 0, PV.int .i64 0] = [] := rfl
      have hi1 : ((i : Int) + 1).toNat = i + 1 := by omega
      have hTl : (ss.take i).length = i := by simp; omega
      have hDl : (ss.drop (i + 1)).length = ss.length - (i + 1) := by simp
      have e4 : (4 : Nat) = Enc.sz Sp := rfl
      rw [hp] at hpq
      by_cases q : (A : Int) = n
      · skip
        simp (disch := first | omega | with_unfolding_all rfl) [hlt, spn_get, hA, hB, q, hr]
        generalize hT : ss.take i = T at *
        generalize hD : ss.drop (i + 1) = D at *
        have hT3 : T.length ≤ 3000 := by omega
        have hD3 : D.length ≤ 3000 := by omega
        by_cases z : i = 0
        · have hT0 : T = [] := List.length_eq_zero_iff.1 (by omega)
          subst hT0
          by_cases y : ss.length = 1
          · have hD0 : D = [] := List.length_eq_zero_iff.1 (by omega)
            subst hD0
            rw [if_pos ⟨by rw [z], y⟩] at hdn
            subst hdn
            simp (disch := first | omega | with_unfolding_all rfl) [hT, hD, hi1, evApp_ex_nil, hf, hlt, spn_get, hA, hB, hpr, h5, hbk]
            refine G_reg_chk ?_ ?_
            · refine (all_cons_ck (ckOne_of rfl ?_) (all_cons_ck (ckOne_of rfl ?_) (all_cons_ck (ckOne_of rfl ?_) (all_cons_ck (ckOne_of rfl ?_) all_nil_ck))))
              all_goals simp (disch := first | omega | with_unfolding_all rfl) [hT, hD, hi1, evApp_ex_nil, hf, hlt, spn_get, hA, hB, hpr, h5, hbk]
            simp (disch := first | omega | with_unfolding_all rfl) [hT, hD, hi1, evApp_ex_nil, hf, hlt, spn_get, hA, hB, hpr, h5, hbk]
            rfl
          · have hDn : D ≠ [] := by rintro rfl; simp at hDl; omega
            rw [if_neg (by rintro ⟨_, q⟩; exact y q)] at hdn
            subst hdn
            simp (disch := first | omega | with_unfolding_all rfl) [hT, hD, hi1, evApp_ex_nil, hf, hlt, spn_get, hA, hB, hpr, h5, hbk, evApp_ex_lst hD3, hDn]
            refine G_reg_chk ?_ ?_
            · refine (all_cons_ck (ckOne_of rfl ?_) (all_cons_ck (ckOne_of rfl ?_) (all_cons_ck (ckOne_of rfl ?_) (all_cons_ck (ckOne_of rfl ?_) all_nil_ck))))
              all_goals simp (disch := first | omega | with_unfolding_all rfl) [hT, hD, hi1, evApp_ex_nil, hf, hlt, spn_get, hA, hB, hpr, h5, hbk, evApp_ex_lst hD3, hDn]
            simp (disch := first | omega | with_unfolding_all rfl) [hT, hD, hi1, evApp_ex_nil, hf, hlt, spn_get, hA, hB, hpr, h5, hbk, evApp_ex_lst hD3, hDn]
        · have hTn : T ≠ [] := by rintro rfl; simp at hTl; omega
          rw [if_neg (by rintro ⟨q, _⟩; simp at q; exact z q)] at hdn
          subst hdn
          by_cases hDn : D = []
          · subst hDn
            simp (disch := first | omega | with_unfolding_all rfl) [hT, hD, hi1, evApp_ex_nil, hf, hlt, spn_get, hA, hB, hpr, h5, hbk, evApp_ex_lst hT3, hTn]
            refine G_reg_chk ?_ ?_
            · refine (all_cons_ck (ckOne_of rfl ?_) (all_cons_ck (ckOne_of rfl ?_) (all_cons_ck (ckOne_of rfl ?_) (all_cons_ck (ckOne_of rfl ?_) all_nil_ck))))
              all_goals simp (disch := first | omega | with_unfolding_all rfl) [hT, hD, hi1, evApp_ex_nil, hf, hlt, spn_get, hA, hB, hpr, h5, hbk, evApp_ex_lst hT3, hTn]
            simp (disch := first | omega | with_unfolding_all rfl) [hT, hD, hi1, evApp_ex_nil, hf, hlt, spn_get, hA, hB, hpr, h5, hbk, evApp_ex_lst hT3, hTn]
          · have hfzz := fun n H => frzB_bk (α := Sp) (xs := T ++ D) (nl' := .any) (n := n) (H := H) (gen := 2) (e := 26) (show T.length + D.length = (T ++ D).length by simp)
            simp (disch := first | omega | with_unfolding_all rfl) [hT, hD, hi1, evApp_ex_nil, hf, hlt, spn_get, hA, hB, hpr, h5, hbk, evApp_ex_lst hT3, hTn, hDn, hfzz]
            refine G_reg_chk ?_ ?_
            · refine (all_cons_ck (ckOne_of rfl ?_) (all_cons_ck (ckOne_of rfl ?_) (all_cons_ck (ckOne_of rfl ?_) (all_cons_ck (ckOne_of rfl ?_) all_nil_ck))))
              all_goals simp (disch := first | omega | with_unfolding_all rfl) [hT, hD, hi1, evApp_ex_nil, hf, hlt, spn_get, hA, hB, hpr, h5, hbk, evApp_ex_lst hT3, hTn, hDn, hfzz]
            simp (disch := first | omega | with_unfolding_all rfl) [hT, hD, hi1, evApp_ex_nil, hf, hlt, spn_get, hA, hB, hpr, h5, hbk, evApp_ex_lst hT3, hTn, hDn, hfzz]
      · have q2 : (B : Int) = n := by simpa [q] using hpq
        simp (disch := first | omega | with_unfolding_all rfl) [hlt, spn_get, hA, hB, q, q2, hr]
        generalize hT : ss.take i = T at *
        generalize hD : ss.drop (i + 1) = D at *
        have hT3 : T.length ≤ 3000 := by omega
        have hD3 : D.length ≤ 3000 := by omega
        by_cases z : i = 0
        · have hT0 : T = [] := List.length_eq_zero_iff.1 (by omega)
          subst hT0
          by_cases y : ss.length = 1
          · have hD0 : D = [] := List.length_eq_zero_iff.1 (by omega)
            subst hD0
            rw [if_pos ⟨by rw [z], y⟩] at hdn
            subst hdn
            simp (disch := first | omega | with_unfolding_all rfl) [hT, hD, hi1, evApp_ex_nil, hf, hlt, spn_get, hA, hB, hpr, h5, hbk]
            refine G_reg_chk ?_ ?_
            · refine (all_cons_ck (ckOne_of rfl ?_) (all_cons_ck (ckOne_of rfl ?_) (all_cons_ck (ckOne_of rfl ?_) (all_cons_ck (ckOne_of rfl ?_) all_nil_ck))))
              all_goals simp (disch := first | omega | with_unfolding_all rfl) [hT, hD, hi1, evApp_ex_nil, hf, hlt, spn_get, hA, hB, hpr, h5, hbk]
            simp (disch := first | omega | with_unfolding_all rfl) [hT, hD, hi1, evApp_ex_nil, hf, hlt, spn_get, hA, hB, hpr, h5, hbk]
            rfl
          · have hDn : D ≠ [] := by rintro rfl; simp at hDl; omega
            rw [if_neg (by rintro ⟨_, q⟩; exact y q)] at hdn
            subst hdn
            simp (disch := first | omega | with_unfolding_all rfl) [hT, hD, hi1, evApp_ex_nil, hf, hlt, spn_get, hA, hB, hpr, h5, hbk, evApp_ex_lst hD3, hDn]
            refine G_reg_chk ?_ ?_
            · refine (all_cons_ck (ckOne_of rfl ?_) (all_cons_ck (ckOne_of rfl ?_) (all_cons_ck (ckOne_of rfl ?_) (all_cons_ck (ckOne_of rfl ?_) all_nil_ck))))
              all_goals simp (disch := first | omega | with_unfolding_all rfl) [hT, hD, hi1, evApp_ex_nil, hf, hlt, spn_get, hA, hB, hpr, h5, hbk, evApp_ex_lst hD3, hDn]
            simp (disch := first | omega | with_unfolding_all rfl) [hT, hD, hi1, evApp_ex_nil, hf, hlt, spn_get, hA, hB, hpr, h5, hbk, evApp_ex_lst hD3, hDn]
        · have hTn : T ≠ [] := by rintro rfl; simp at hTl; omega
          rw [if_neg (by rintro ⟨q, _⟩; simp at q; exact z q)] at hdn
          subst hdn
          by_cases hDn : D = []
          · subst hDn
            simp (disch := first | omega | with_unfolding_all rfl) [hT, hD, hi1, evApp_ex_nil, hf, hlt, spn_get, hA, hB, hpr, h5, hbk, evApp_ex_lst hT3, hTn]
            refine G_reg_chk ?_ ?_
            · refine (all_cons_ck (ckOne_of rfl ?_) (all_cons_ck (ckOne_of rfl ?_) (all_cons_ck (ckOne_of rfl ?_) (all_cons_ck (ckOne_of rfl ?_) all_nil_ck))))
              all_goals simp (disch := first | omega | with_unfolding_all rfl) [hT, hD, hi1, evApp_ex_nil, hf, hlt, spn_get, hA, hB, hpr, h5, hbk, evApp_ex_lst hT3, hTn]
            simp (disch := first | omega | with_unfolding_all rfl) [hT, hD, hi1, evApp_ex_nil, hf, hlt, spn_get, hA, hB, hpr, h5, hbk, evApp_ex_lst hT3, hTn]
          · have hfzz := fun n H => frzB_bk (α := Sp) (xs := T ++ D) (nl' := .any) (n := n) (H := H) (gen := 2) (e := 26) (show T.length + D.length = (T ++ D).length by simp)
            simp (disch := first | omega | with_unfolding_all rfl) [hT, hD, hi1, evApp_ex_nil, hf, hlt, spn_get, hA, hB, hpr, h5, hbk, evApp_ex_lst hT3, hTn, hDn, hfzz]
            refine G_reg_chk ?_ ?_
            · refine (all_cons_ck (ckOne_of rfl ?_) (all_cons_ck (ckOne_of rfl ?_) (all_cons_ck (ckOne_of rfl ?_) (all_cons_ck (ckOne_of rfl ?_) all_nil_ck))))
              all_goals simp (disch := first | omega | with_unfolding_all rfl) [hT, hD, hi1, evApp_ex_nil, hf, hlt, spn_get, hA, hB, hpr, h5, hbk, evApp_ex_lst hT3, hTn, hDn, hfzz]
            simp (disch := first | omega | with_unfolding_all rfl) [hT, hD, hi1, evApp_ex_nil, hf, hlt, spn_get, hA, hB, hpr, h5, hbk, evApp_ex_lst hT3, hTn, hDn, hfzz]
    · have hF : hdF ss n = none := firstN_none (fun j hj => hz j (Nat.zero_le _) (by omega))
      simp only [hF] at hE hN hV
      rw [hE, hN, hV]
      simp (disch := first | omega | with_unfolding_all rfl) []

theorem same2_ok {n1 n3 : Nl} {ss : List Sp} (hs : ss.length ≤ 3000) : R tb 22 [lst n1 ss, lst n3 ss] = some (.bool true) := by
  refine R_of_G (F := pf22) rfl rfl rfl ?_
  simp (disch := first | omega | with_unfolding_all rfl) [pf22, env0_eq]
  refine G_loop (fun i e h => i ≤ ss.length ∧ h = [] ∧ get e 0 = lst n1 ss ∧ get e 1 = lst n3 ss ∧ get e 5 = .int .i64 (i : Int)) (fun i => ss.length - i) (a₀ := 0) ?_ ?_
  · simp
  rintro i e h ⟨hi, rfl, g0, g1, g5⟩
  simp (disch := first | omega | with_unfolding_all rfl) [g0, g1, g5]
  refine G_brd (fun hlt => ?_) (fun hlt => ?_)
  · simp (disch := first | omega | with_unfolding_all rfl) [hlt, spn_get]
    exact ⟨i + 1, by omega, by omega, by push_cast; rfl⟩
  · simp (disch := first | omega | with_unfolding_all rfl) [hlt]
theorem dropV_list (dn : Nl) (l : Ld) (ss : List Sp) (n : Int) : ∃ a b c, dropV dn l ss n = .list a b c := by
  unfold dropV
  split
  · exact ⟨_, _, _, rfl⟩
  · split <;> exact ⟨_, _, _, rfl⟩
theorem drops_ok {l : Ld} (hf : l.nl ≠ .bor) (hb : l.xs.length ≤ maxLen) {ss : List Sp} (hs : ss.length ≤ maxLen) (n : Int) (hn : ∀ a H, n2 46 a H = none) : R (tbM n2) 7 [vL l, lst .any ss, .int .i64 n] = some (.bool true) := by
  have h0 := M2 (n2 := n2) (far_ok hf hb (snl := .any) hs)
  have h1 := fun (h : l.xs.length ≤ 3000) (h' : ss.length ≤ 300) => drop_ok (n2 := n2) hf h h' n hn
  have h2 := fun (h : l.xs.length ≤ 3000) (h' : ss.length ≤ 300) => dropR_ok (n2 := n2) hf h (snl := .any) h' n
  have hk := M2 (n2 := n2) known_ok
  have h3 : ∀ dn, ss.length ≤ 300 → R (tbM n2) 22 [dropV .any l ss n, dropV dn l ss n] = some (.bool true) := by
    intro dn h
    unfold dropV
    split
    · exact M2 sameNil_ok
    · split
      · exact M2 (same2_ok (by simp; omega))
      · exact M2 sameNil_ok
  obtain ⟨a1, a2, a3, h4⟩ := dropV_list .any l ss n
  have h5 := fun dn => dropV_list dn l ss n
  rw [h4] at h1 h3
  generalize dropE l ss n = rE at *
  generalize dropN l ss n = rN at *
  by_cases c : 3000 < l.xs.length ∨ 300 < ss.length
  · have hc : (decide (3000 < l.xs.length) || decide (300 < ss.length)) = true := by simpa using c
    rw [hc] at h0
    obtain ⟨w, hh, nl, xs⟩ := l
    dsimp only at hf hb h0
    refine R_of_G (F := pf7) (M_nat rfl) rfl rfl ?_
    simp (disch := first | omega | with_unfolding_all rfl) [pf7, env0_eq, hf, h0, hk]
  · have hc : (decide (3000 < l.xs.length) || decide (300 < ss.length)) = false := by simp; omega
    rw [hc] at h0
    have h1 := h1 (by omega) (by omega)
    obtain ⟨dn, h2⟩ := h2 (by omega) (by omega)
    have h6 := h3 dn (by omega)
    obtain ⟨b1, b2, b3, h5⟩ := h5 dn
    rw [h5] at h2 h6
    obtain ⟨w, hh, nl, xs⟩ := l
    dsimp only at hf hb h0 h1 h2
    refine R_of_G (F := pf7) (M_nat rfl) rfl rfl ?_
    simp (disch := first | omega | with_unfolding_all rfl) [pf7, env0_eq, hf, h0, hk, h1, h2, h6]
/-- The table without a sort. -/
noncomputable def tbD : Table := tbM fun _ _ _ => none
theorem tbM_fns : ∀ x ∈ (tbM n2).fns, fnOk Try.prog x.1 x.2 = true :=
  List.forall_mem_cons.2 ⟨pf62_ok, List.forall_mem_cons.2 ⟨pf63_ok, List.forall_mem_cons.2 ⟨pf44_ok, List.forall_mem_cons.2 ⟨pf23_ok, List.forall_mem_cons.2 ⟨pf46_ok, List.forall_mem_cons.2 ⟨pg24_ok, List.forall_mem_cons.2 ⟨pf7_ok, List.forall_mem_cons.2 ⟨pf51_ok, List.forall_mem_cons.2 ⟨pf28_ok, List.forall_mem_cons.2 ⟨pf11_ok, List.forall_mem_cons.2 ⟨pf9_ok, List.forall_mem_cons.2 ⟨pf10_ok, fun _ h => (List.not_mem_nil h).elim⟩⟩⟩⟩⟩⟩⟩⟩⟩⟩⟩⟩
theorem tbM_ok (h2 : ∀ f args H r H', n2 f args H = some (r, H') → OpenOk Try.prog f args H r H') : TOk Try.prog (tbM n2) := ⟨tbM_fns,
  fun f args r h => R_ok tb_ok h, fun f args H r H' h => by
    change (match RO tb f args H with | some r => some r | none => match natD f args H with | some r => some r | none => n2 f args H) = _ at h
    split at h
    · rename_i q hq
      simp only [Option.some.injEq] at h
      subst h
      exact RO_ok tb_ok hq
    · split at h
      · rename_i q hq
        simp only [Option.some.injEq] at h
        subst h
        exact natD_ok _ _ _ _ _ hq
      · exact h2 _ _ _ _ _ h,
  fun _ _ _ h => (by cases h), sq64_ok, (by kernel_rfl)⟩
theorem tbD_ok : TOk Try.prog tbD := tbM_ok fun _ _ _ _ _ h => (by cases h)
end Go.Proofs.Ytpnhdcjfhlcgoaa
