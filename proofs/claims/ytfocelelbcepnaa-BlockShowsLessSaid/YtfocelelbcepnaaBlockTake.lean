/- Blocks: what taking a signal away leaves. -/
import Derived.Test.YtfocelelbcepnaaBlockMay
import Derived.Test.YtfocelelbcepnaaBlockNatA
set_option linter.unusedVariables false
set_option linter.unusedSimpArgs false
set_option maxHeartbeats 4000000
set_option maxRecDepth 20000
namespace Go.Proofs.Ytfocelelbcepnaa
open Go.Proofs.Ytfocelelbcepnaa.PM

theorem evApp_ex_lst {nl : Nl} {H : Hp} {ys : List Sg} (hs : ys.length ≤ 3000) : evApp 45 4 32 (.list .ex 4 []) (lst nl ys) H = if ys = [] then some (.list .ex 4 [], H) else some (mls Sg H.length 1 ys.length, H ++ [bk 45 1 ys]) := by
  have hx := srcOf_lst (nl := nl) (xs := ys) (H := H) 4
  rw [if_pos (show 4 = Enc.sz Sg from rfl)] at hx
  split
  · rename_i h
    subst h
    exact evApp_nil (xs := ([] : List Sg)) (nl := .ex) hx
  · rename_i h
    have := evApp_lst (e := 45) (s := 4) (bytes := 32) (x := lst nl ys) (xs := ([] : List Sg)) (nl := .ex) (ys := ys) (H := H) rfl (.inr rfl) hx h (by simp; omega)
    exact (by simpa using this : evApp 45 4 32 (lst .ex ([] : List Sg)) (lst nl ys) H = some (mls Sg H.length 1 ys.length, H ++ [bk 45 1 ys]))
def zSg : Sg := ⟨0, 0, 0, 0⟩
theorem delC_cl {ss : List Sg} {i : Nat} (hi : i < ss.length) : delC (cl ss) ss.length i (i + 1) = cl (ss.take i ++ ss.drop (i + 1) ++ [zSg]) := by
  have hsz : Enc.sz Sg = 4 := rfl
  have hd : (cl ss).drop ((i + 1) * 4) = cl (ss.drop (i + 1)) := drop_cl ss (i + 1)
  have ht : (cl ss).take (i * 4) = cl (ss.take i) := take_cl ss i
  have hl : (cl ss).length = ss.length * 4 := length_cl ss
  have hll : (cl (ss.drop (i + 1))).length = (ss.length - (i + 1)) * 4 := by rw [length_cl, List.length_drop]; rfl
  have htl : (cl (ss.take i)).length = i * 4 := by rw [length_cl, List.length_take, Nat.min_eq_left (by omega)]; rfl
  unfold delC
  rw [hd]
  have e1 : cl ss = cl (ss.take i) ++ (((cl ss).drop (i * 4)).take ((ss.length - (i + 1)) * 4) ++ ((cl ss).drop (i * 4)).drop ((ss.length - (i + 1)) * 4)) := by
    rw [List.take_append_drop, ← ht, List.take_append_drop]
  have e2 : setCells (cl ss) (i * 4) (cl (ss.drop (i + 1))) = cl (ss.take i) ++ (cl (ss.drop (i + 1)) ++ ((cl ss).drop (i * 4)).drop ((ss.length - (i + 1)) * 4)) := by
    conv => lhs; rw [e1]
    exact setCells_mid _ _ _ _ _ htl.symm (by rw [List.length_take, List.length_drop, hl, hll]; omega)
  rw [e2]
  have e3 : (((cl ss).drop (i * 4)).drop ((ss.length - (i + 1)) * 4)).length = 4 := by rw [List.length_drop, List.length_drop, hl]; omega
  generalize ((cl ss).drop (i * 4)).drop ((ss.length - (i + 1)) * 4) = z at *
  have e4 := setCells_mid (cl (ss.take i) ++ cl (ss.drop (i + 1))) z [] (List.replicate ((ss.length - (i + (ss.length - (i + 1)))) * 4) (.int .i64 0)) ((i + (ss.length - (i + 1))) * 4) (by rw [List.length_append, htl, hll]; omega) (by rw [e3, List.length_replicate]; omega)
  rw [List.append_nil, List.append_nil, List.append_assoc] at e4
  rw [e4, show (ss.length - (i + (ss.length - (i + 1)))) * 4 = 4 by omega, cl_append, cl_append]
  rfl
theorem RO_nat {T : Table} {f : Nat} {args : List PV} {H H' : Hp} {r : PV} (hn : T.natO f args H = some (r, H')) : RO T f args H = some (r, H') := by
  unfold RO callO
  rw [hn]
theorem del_call {H : Hp} {b gen i : Nat} {ss : List Sg} (hb : H[b]? = some (bk 45 gen ss)) (hi : i < ss.length) : RO tb 62 [mls Sg b gen ss.length, .int .i64 i, .int .i64 (i + 1)] H = some (mls Sg b gen (ss.length - 1), H.set b (bk 45 gen (ss.take i ++ ss.drop (i + 1) ++ [zSg]))) := by
  have hl : (cl ss).length = ss.length * 4 := length_cl ss
  refine RO_nat ?_
  show natD [mls Sg b gen ss.length, .int .i64 i, .int .i64 (i + 1)] H = _
  show (H[b]?).bind (fun B => if B.gen = gen ∧ B.mp = none ∧ B.xs.length = ss.length * 4 ∧ 0 ≤ (i : Int) ∧ (i : Int) < (i : Int) + 1 ∧ (i : Int) + 1 ≤ (ss.length : Int) then some (PV.msl true b gen 0 ((i : Int).toNat + (ss.length - ((i : Int) + 1).toNat)) 4, H.set b ⟨B.e, gen, delC B.xs ss.length (i : Int).toNat ((i : Int) + 1).toNat, none⟩) else none) = _
  rw [hb]
  simp only [Option.bind_some]
  rw [if_pos ⟨trivial, trivial, hl, by omega, by omega, by omega⟩, show (i : Int).toNat = i by omega, show (i + 1 : Int).toNat = i + 1 by omega, delC_cl hi, show i + (ss.length - (i + 1)) = ss.length - 1 by omega]
  rfl
theorem frz_cutS {gen k : Nat} {H : Hp} (A Z : List Sg) : frzB Sg H .any k (some (bk 45 gen (A ++ Z))) gen A.length = some (lst .any A) := by
  unfold frzB
  split
  · rename_i h0
    rw [List.length_eq_zero_iff.1 h0]; rfl
  · have h2 : mapO (frz H .any (k + 1)) (cl A) = some (cl A) := mapO_cl .any k A
    have h3 : List.take (A.length * Enc.sz Sg) (cl (A ++ Z)) = cl A := by
      rw [cl_append, List.take_append_of_le_length (by simp), ← length_cl, List.take_length]
    simp only [Option.bind_some]
    rw [if_pos ⟨trivial, by simp; omega⟩]
    simp only [Option.bind_some, h3, h2]
    rw [if_pos (by simp)]
    rfl
theorem clone_ok {nl : Nl} {H : Hp} {ss : List Sg} (hnl : nl ≠ .nil) (hss : ss.length ≤ 3000) (hne : ss ≠ []) : RO tb 63 [lst nl ss] H = some (mls Sg H.length 1 ss.length, H ++ [bk 45 1 ss]) := by
  have ha := evApp_ex_lst (nl := nl) (H := H) (ys := ss) (by omega)
  have hq2 : evEqNil false (lst nl ss) (.list .nil 1 []) = some (.bool false) := by
    cases ss with
    | nil => exact absurd rfl hne
    | cons s r => cases nl <;> first | rfl | exact absurd rfl hnl
  have hr : rep 0 [PV.int .i64 0, PV.int .i64 0, PV.int .i64 0, PV.int .i64 0] = [] := rfl
  have hn : tb.natO 63 [lst nl ss] H = none := by
    cases ss with
    | nil => exact absurd rfl hne
    | cons s r => rfl
  refine RO_of_G (F := pf63) hn rfl rfl ?_
  simp (disch := first | omega | with_unfolding_all rfl) [pf63, env0_eq, ha, hne, hq2, hr, -evEqNil]
def without (ls : List Sg) (i : Nat) : List Sg := ls.take i ++ ls.drop (i + 1)
noncomputable def takV (r : Rl) (ls : List Sg) (t p o : Int) : PV := if valErr r ls = 0 then (if sgn ls t p o = true then .tup [lst .any (without ls (posS ⟨t, p, o, 0⟩ ls)), .int .i64 0] else .tup [.list .nil 1 [], .int .i64 2]) else .tup [.list .nil 1 [], .int .i64 (valErr r ls)]
theorem sgn_lt {ls : List Sg} {t p o : Int} (h : sgn ls t p o = true) : posS ⟨t, p, o, 0⟩ ls < ls.length := by
  unfold sgn isAt at h
  split at h
  · rename_i x hx; exact (List.getElem?_eq_some_iff.1 hx).1
  · cases h
theorem take_ok (r : Rl) {nl : Nl} (hnl : nl ≠ .nil) (ls : List Sg) (t p o : Int) (hb : r.s.length ≤ 3000) (hl : ls.length ≤ 3000) : R tb 27 [vR r, lst nl ls, .int .i64 t, .int .i64 p, .int .i64 o] = some (takV r ls t p o) := by
  have h19 := validate_ok r nl ls hb (by omega)
  refine R_of_G (F := pf27) rfl rfl rfl ?_
  by_cases h : valErr r ls = 0
  case neg => simp (disch := first | omega | with_unfolding_all rfl) [pf27, env0_eq, h19, h, takV]
  have v := vd_of h
  have h61 := at_ok (nl := nl) (l := ⟨t, p, o, 0⟩) (by omega) v.so
  simp only [vS] at h61
  rw [show isAt ⟨t, p, o, 0⟩ ls = sgn ls t p o from rfl] at h61
  cases c : sgn ls t p o
  · rw [c] at h61
    simp (disch := first | omega | with_unfolding_all rfl) [pf27, env0_eq, h19, h, h61, c, takV]
  · rw [c] at h61
    have hz := sgn_lt c
    rw [takV, if_pos h, if_pos c]
    obtain ⟨z, hzd⟩ : ∃ z, z = posS ⟨t, p, o, 0⟩ ls := ⟨_, rfl⟩
    rw [← hzd] at h61 hz ⊢
    have hcl := clone_ok (nl := nl) (H := []) (ss := ls) hnl hl (by rintro rfl; simp at hz)
    have hdl := del_call (H := [bk 45 1 ls]) (b := 0) (gen := 1) (i := z) (ss := ls) rfl hz
    have hfz := fun k => frz_cutS (gen := 1) (k := k) (H := [bk 45 1 (ls.take z ++ ls.drop (z + 1) ++ [zSg])]) (ls.take z ++ ls.drop (z + 1)) [zSg]
    have hlen : (ls.take z ++ ls.drop (z + 1)).length = ls.length - 1 := by simp; omega
    rw [hlen] at hfz
    simp only [List.append_assoc] at hfz hdl
    simp (disch := first | omega | with_unfolding_all rfl) [pf27, env0_eq, h19, h, h61, hcl, hdl, hfz, without]
theorem evApp_mls_sg {nl : Nl} {H : Hp} {b g : Nat} {xs ys : List Sg} (hb : H[b]? = some (bk 45 g xs)) (hs : xs.length + ys.length ≤ 6000) : evApp 45 4 32 (mls Sg b g xs.length) (lst nl ys) H = if ys = [] then some (mls Sg b g xs.length, H) else some (mls Sg b (g + 1) (xs.length + ys.length), H.set b (bk 45 (g + 1) (xs ++ ys))) := by
  rw [evApp_mls_lst, if_pos (show 4 = Enc.sz Sg from rfl)]
  split
  · rfl
  · rw [hb, appB_bk rfl (by omega)]
theorem refTake_ok (r : Rl) (nl : Nl) (ls : List Sg) (t p o : Int) (hb : r.s.length ≤ 3000) (hl : ls.length ≤ 3000) : ∃ nl', (nl' ≠ .bor) ∧ R tb 26 [vR r, lst nl ls, .int .i64 t, .int .i64 p, .int .i64 o] = some (if valErr r ls = 0 then (if sgn ls t p o = true then .tup [lst nl' (without ls (posS ⟨t, p, o, 0⟩ ls)), .int .i64 0] else .tup [.list .nil 1 [], .int .i64 2]) else .tup [.list .nil 1 [], .int .i64 (valErr r ls)]) := by
  have h18 := refValidate_ok r nl ls hb (by omega)
  by_cases h : valErr r ls = 0
  case neg =>
    refine ⟨.any, by simp, R_of_G (F := pf26) rfl rfl rfl ?_⟩
    simp (disch := first | omega | with_unfolding_all rfl) [pf26, env0_eq, h18, h]
  have v := vd_of h
  have h60 := refAt_ok (nl := nl) (by omega) v.so t p o
  simp only [h, if_true]
  cases c : sgn ls t p o
  · rw [c] at h60
    refine ⟨.any, by simp, R_of_G (F := pf26) rfl rfl rfl ?_⟩
    simp (disch := first | omega | with_unfolding_all rfl) [pf26, env0_eq, h18, h, h60, c]
  rw [c, if_pos rfl] at h60
  simp only [if_true]
  have hz := sgn_lt c
  obtain ⟨z, hzd⟩ : ∃ z, z = posS ⟨t, p, o, 0⟩ ls := ⟨_, rfl⟩
  rw [← hzd] at h60 hz ⊢
  obtain ⟨A, hA⟩ : ∃ A, A = ls.take z := ⟨_, rfl⟩
  obtain ⟨B, hB⟩ : ∃ B, B = ls.drop (z + 1) := ⟨_, rfl⟩
  have hAl : A.length = z := by rw [hA, List.length_take]; omega
  have hBl : B.length + z + 1 = ls.length := by rw [hB, List.length_drop]; omega
  have hw : without ls z = A ++ B := by rw [hA, hB]; rfl
  rw [hw]
  have hr : rep 0 [PV.int .i64 0, PV.int .i64 0, PV.int .i64 0, PV.int .i64 0] = [] := rfl
  have hs1 : ∀ nl' : Nl, evApp 45 4 32 (.list .ex 4 []) (lst nl' A) [] = if A = [] then some (.list .ex 4 [], []) else some (mls Sg 0 1 A.length, [bk 45 1 A]) := fun nl' => evApp_ex_lst (by omega)
  have hs2 : ∀ nl' : Nl, evApp 45 4 32 (.list .ex 4 []) (lst nl' B) [] = if B = [] then some (.list .ex 4 [], []) else some (mls Sg 0 1 B.length, [bk 45 1 B]) := fun nl' => evApp_ex_lst (by omega)
  have hs3 : ∀ nl' : Nl, evApp 45 4 32 (mls Sg 0 1 A.length) (lst nl' B) [bk 45 1 A] = if B = [] then some (mls Sg 0 1 A.length, [bk 45 1 A]) else some (mls Sg 0 2 (A.length + B.length), [bk 45 2 (A ++ B)]) := fun nl' => evApp_mls_sg rfl (by omega)
  have hz0 : ¬ (z : Int) < 0 := by omega
  have hs0 : ∀ nl' : Nl, evApp 45 4 32 (.list .ex 4 []) (lst nl' ([] : List Sg)) [] = some (.list .ex 4 [], []) := fun nl' => by rw [evApp_ex_lst (by simp), if_pos rfl]
  have hab : (A ++ B).length = A.length + B.length := by simp
  have nA : ∀ n1 : Nl, evSlc 4 (lst nl ls) none (some (.int .i64 (z : Int))) none = some (lst (nlCut nl (decide (z = ls.length))) A) := fun _ => by
    rw [evSlc_hi (by omega) (by omega), if_pos (show 4 = Enc.sz Sg from rfl), hA]; simp
  have nB : ∀ n1 : Nl, evSlc 4 (lst nl ls) (some (.int .i64 ((z : Int) + 1))) none none = some (lst (nlCut nl true) B) := fun _ => by
    rw [evSlc_lo (by omega) (by omega), if_pos (show 4 = Enc.sz Sg from rfl), hB, show ((z : Int) + 1).toNat = z + 1 by omega]
  by_cases a0 : A = []
  · by_cases b0 : B = []
    · refine ⟨.ex, by simp, R_of_G (F := pf26) rfl rfl rfl ?_⟩
      simp (disch := first | omega | with_unfolding_all rfl) [pf26, env0_eq, h18, h, h60, hz0, hr, nA .any, nB .any, hs0, hs1, hs2, hs3, a0, b0]
      rfl
    · refine ⟨.any, by simp, R_of_G (F := pf26) rfl rfl rfl ?_⟩
      simp (disch := first | omega | with_unfolding_all rfl) [pf26, env0_eq, h18, h, h60, hz0, hr, nA .any, nB .any, hs0, hs1, hs2, hs3, a0, b0]
  · by_cases b0 : B = []
    · refine ⟨.any, by simp, R_of_G (F := pf26) rfl rfl rfl ?_⟩
      simp (disch := first | omega | with_unfolding_all rfl) [pf26, env0_eq, h18, h, h60, hz0, hr, nA .any, nB .any, hs0, hs1, hs2, hs3, a0, b0]
    · refine ⟨.any, by simp, R_of_G (F := pf26) rfl rfl rfl ?_⟩
      simp (disch := first | omega | with_unfolding_all rfl) [pf26, env0_eq, h18, h, h60, hz0, hr, nA .any, nB .any, hs0, hs1, hs2, hs3, a0, b0]
theorem sameSigs_ok {n1 n2 : Nl} (xs : List Sg) (h : xs.length ≤ 100000) : R tb 28 [lst n1 xs, lst n2 xs] = some (.bool true) := by
  refine R_of_G (F := pf28) rfl rfl rfl ?_
  simp (disch := first | omega | with_unfolding_all rfl) [pf28, env0_eq]
  refine G_scanC [0, 1] 5 (fun _ => false) xs.length 0 (by simp) (Nat.zero_le _) ?_
  rintro i e - hi hz hk g5
  simp at hk
  simp (disch := first | omega | with_unfolding_all rfl) [hk, g5]
  refine G_brd (fun c => ?_) (fun c => ?_)
  · simp (disch := first | omega | with_unfolding_all rfl) [hk, g5, c]
  · simp (disch := first | omega | with_unfolding_all rfl) [hk, g5, c]
theorem sameSigNil_ok : R tb 28 [.list .nil 1 [], .list .nil 1 []] = some (.bool true) := R_of (n := 60) (by kernel_rfl)
theorem law7_ok (r : Rl) (ls : List Sg) (t p o : Int) : R tb 7 [vR r, lst .any ls, .int .i64 t, .int .i64 p, .int .i64 o] = some (.bool true) := by
  have h16 := far_ok r .any ls
  refine R_of_G (F := pf7) rfl rfl rfl ?_
  cases hf : farB r ls
  case true => simp (disch := first | omega | with_unfolding_all rfl) [pf7, env0_eq, h16, hf, known_ok]
  obtain ⟨f1, f2, f3⟩ := not_far hf
  have h27 := take_ok r (nl := .any) (by simp) ls t p o (by omega) (by omega)
  obtain ⟨nl', hb, h26⟩ := refTake_ok r .any ls t p o (by omega) (by omega)
  by_cases h : valErr r ls = 0
  case neg =>
    rw [if_neg h] at h26
    rw [takV, if_neg h] at h27
    simp (disch := first | omega | with_unfolding_all rfl) [pf7, env0_eq, h16, hf, h26, h27, sameSigNil_ok, known_ok]
  rw [if_pos h] at h26
  rw [takV, if_pos h] at h27
  cases c : sgn ls t p o
  · rw [c, if_neg (by decide)] at h26 h27
    simp (disch := first | omega | with_unfolding_all rfl) [pf7, env0_eq, h16, hf, h26, h27, sameSigNil_ok, known_ok]
  · rw [c, if_pos rfl] at h26 h27
    obtain ⟨X, hX⟩ : ∃ X, X = without ls (posS ⟨t, p, o, 0⟩ ls) := ⟨_, rfl⟩
    have hXl : X.length ≤ 100000 := by rw [hX]; unfold without; simp; omega
    rw [← hX] at h26 h27
    have h28 := sameSigs_ok (n1 := .any) (n2 := nl') X hXl
    simp (disch := first | omega | with_unfolding_all rfl) [pf7, env0_eq, h16, hf, h26, h27, h28, known_ok]
end Go.Proofs.Ytfocelelbcepnaa
