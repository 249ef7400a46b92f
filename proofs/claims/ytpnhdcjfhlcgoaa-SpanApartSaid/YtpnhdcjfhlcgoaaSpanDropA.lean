/- Several texts in one: SpanDrop, SpanDrop2, SpanDropR. -/
import Derived.Test.YtpnhdcjfhlcgoaaSpanHold
import Derived.Test.YtpnhdcjfhlcgoaaSpanDel
import Derived.Test.YtpnhdcjfhlcgoaaSpanCode3
section
set_option linter.unusedVariables false
set_option linter.unusedSimpArgs false
set_option maxHeartbeats 4000000
set_option maxRecDepth 20000
namespace Go.Proofs.Ytpnhdcjfhlcgoaa
open Go.Proofs.Ytpnhdcjfhlcgoaa.PM

/-- The table of what dropping and adding reach beside. -/
noncomputable def tbM (n2 : Nat → List PV → Hp → Option (PV × Hp)) : Table := ⟨[(62, pf62), (63, pf63), (44, pf44), (23, pf23), (46, pg46), (24, pg24), (7, pf7), (51, pf51), (28, pf28), (11, pf11), (9, pf9), (10, pf10)], fun f args => R tb f args,
  fun f args H => match RO tb f args H with | some r => some r | none => match natD f args H with | some r => some r | none => n2 f args H, fun _ _ => none, sqT⟩
variable {n2 : Nat → List PV → Hp → Option (PV × Hp)}
theorem M2 {f : Nat} {args : List PV} {r : PV} (h : R tb f args = some r) : R (tbM n2) f args = some r := R_nat h
theorem M_nat {f : Nat} {args : List PV} (hf : findF tb.fns f = none) : (tbM n2).nat f args = none := R_none rfl hf
theorem M_natO {f : Nat} {args : List PV} {H : Hp} (hf : findF tb.fns f = none) (hD : natD f args H = none) (h : n2 f args H = none) : (tbM n2).natO f args H = none := by
  show (match RO tb f args H with | some r => some r | none => match natD f args H with | some r => some r | none => n2 f args H) = none
  rw [RO_none rfl hf, hD, h]
theorem MD {args : List PV} {H H' : Hp} {r : PV} (h : natD 45 args H = some (r, H')) : RO (tbM n2) 45 args H = some (r, H') := by
  refine RO_nat ?_
  show (match RO tb 45 args H with | some r => some r | none => match natD 45 args H with | some r => some r | none => n2 45 args H) = _
  rw [RO_none rfl rfl, h]
theorem Mn {f : Nat} {args : List PV} {H H' : Hp} {r : PV} (hf : findF tb.fns f = none) (hD : natD f args H = none) (h : n2 f args H = some (r, H')) : RO (tbM n2) f args H = some (r, H') := by
  refine RO_nat ?_
  show (match RO tb f args H with | some r => some r | none => match natD f args H with | some r => some r | none => n2 f args H) = _
  rw [RO_none rfl hf, hD, h]

/-- A head of the span is there. -/
def isH (n : Int) (s : Sp) : Bool := decide (s.a = n) || decide (s.b = n)
def hdF (ss : List Sp) (n : Int) : Option Nat := firstN (fun i => isH n (spn ss i)) ss.length
def hdI (ss : List Sp) (n : Int) : Int := match hdF ss n with | some i => i | none => -1
theorem isH_ok (s : Sp) (n : Int) : R (tbM n2) 63 [vSpan s.k s.a s.b s.u, .pptr false [.int .i64 n] 0] = some (.bool (isH n s)) := by
  refine R_of_G (F := pf63) (M_nat rfl) rfl rfl ?_
  unfold isH
  by_cases c : s.a = n
  · simp (disch := first | omega | with_unfolding_all rfl) [pf63, env0_eq, c]
  · simp (disch := first | omega | with_unfolding_all rfl) [pf63, env0_eq, c]
theorem index_ok {snl : Nl} {ss : List Sp} (hss : ss.length ≤ 300) (n : Int) : R (tbM n2) 62 [lst snl ss, .clo (.func 63) [] [.pptr false [.int .i64 n] 0]] = some (.int .i64 (hdI ss n)) := by
  have h1 := fun s => isH_ok (n2 := n2) s n
  refine R_of_G (F := pf62) (M_nat rfl) rfl rfl ?_
  simp (disch := first | omega | with_unfolding_all rfl) [pf62, env0_eq]
  refine G_scan (fun i e h => h = [] ∧ get e 0 = lst snl ss ∧ get e 1 = .clo (.func 63) [] [.pptr false [.int .i64 n] 0] ∧ get e 7 = .int .i64 (ss.length : Int) ∧ get e 8 = .int .i64 (i : Int))
    (fun i => isH n (spn ss i)) ss.length 0 ?_ (Nat.zero_le _) ?_
  · simp
  · rintro i e h - hi hz ⟨rfl, g0, g1, g7, g8⟩
    simp (disch := first | omega | with_unfolding_all rfl) [g0, g1, g7, g8]
    refine G_brd (fun hlt => ?_) (fun hlt => ?_)
    · have h1 := h1 (spn ss i)
      have hI : isH n (spn ss i) = true → hdI ss n = (i : Int) := fun hb => by
        unfold hdI hdF
        rw [firstN_some hlt hz hb]
      generalize hp : isH n (spn ss i) = p at *
      simp (disch := first | omega | with_unfolding_all rfl) [hlt, spn_get, h1]
      cases p
      · simp (disch := first | omega | with_unfolding_all rfl) [hp, hlt]
      · simp (disch := first | omega | with_unfolding_all rfl) [hI rfl]
    · have hI : hdI ss n = -1 := by
        unfold hdI hdF
        rw [firstN_none (fun j hj => hz j (Nat.zero_le _) (by omega))]
      simp (disch := first | omega | with_unfolding_all rfl) [hI]
theorem head_ok {snl : Nl} {ss : List Sp} (hss : ss.length ≤ 300) (n : Int) : R (tbM n2) 44 [lst snl ss, .int .i64 n] = some (.int .i64 (hdI ss n)) := by
  have h1 := index_ok (n2 := n2) (snl := snl) hss n
  refine R_of_G (F := pf44) (M_nat rfl) rfl rfl ?_
  simp (disch := first | omega | with_unfolding_all rfl) [pf44, env0_eq, h1]
end Go.Proofs.Ytpnhdcjfhlcgoaa
end

section
set_option linter.unusedVariables false
set_option linter.unusedSimpArgs false
set_option maxHeartbeats 4000000
set_option maxRecDepth 20000
namespace Go.Proofs.Ytpnhdcjfhlcgoaa
open Go.Proofs.Ytpnhdcjfhlcgoaa.PM
variable {n2 : Nat → List PV → Hp → Option (PV × Hp)}

theorem evApp_ex_lst {nl : Nl} {H : Hp} {ys : List Sp} (hs : ys.length ≤ 3000) : evApp 26 4 32 (.list .ex 4 []) (lst nl ys) H = if ys = [] then some (.list .ex 4 [], H) else some (mls Sp H.length 1 ys.length, H ++ [bk 26 1 ys]) := by
  have hx := srcOf_lst (nl := nl) (xs := ys) (H := H) 4
  rw [if_pos (show 4 = Enc.sz Sp from rfl)] at hx
  split
  · rename_i h
    subst h
    exact evApp_nil (xs := ([] : List Sp)) (nl := .ex) hx
  · rename_i h
    have := evApp_lst (e := 26) (s := 4) (bytes := 32) (x := lst nl ys) (xs := ([] : List Sp)) (nl := .ex) (ys := ys) (H := H) rfl (.inr rfl) hx h (by simp; omega)
    exact (by simpa using this : evApp 26 4 32 (lst .ex ([] : List Sp)) (lst nl ys) H = some (mls Sp H.length 1 ys.length, H ++ [bk 26 1 ys]))
theorem setCells_full : ∀ (xs ys r : List PV), xs.length = ys.length → setCells (xs ++ r) 0 ys = ys ++ r := by
  intro xs ys r h
  have h2 := setCells_app ([] : List PV) r ys xs 0 (by omega)
  simp only [List.nil_append, List.length_nil, Nat.zero_add] at h2
  rw [h2]
  congr 1
  clear h2
  induction ys generalizing xs with
  | nil => 
    rw [List.length_eq_zero_iff.1 h, setCells_nil]
  | cons y ys ih =>
    cases xs with
    | nil => simp at h
    | cons x xs =>
      rw [setCells_cons]
      simp only [List.set_cons_zero]
      have h3 := setCells_app [y] [] ys xs 0 (by simp at h; omega)
      simp only [List.length_singleton, Nat.add_zero, List.append_nil] at h3
      show setCells ([y] ++ xs) (0 + 1) ys = _
      rw [Nat.zero_add, h3, ih xs (by simpa using h)]
      rfl
theorem setCells_mid (p q s ys : List PV) (o : Nat) (ho : o = p.length) (h : q.length = ys.length) : setCells (p ++ (q ++ s)) o ys = p ++ (ys ++ s) := by
  subst ho
  have := setCells_app p s ys q 0 (by omega)
  rw [Nat.add_zero] at this
  rw [this]
  have h2 := setCells_full q ys [] h
  rw [List.append_nil, List.append_nil] at h2
  rw [h2]
def zSp : Sp := ⟨0, 0, 0, 0⟩
theorem delC_cl {ss : List Sp} {i : Nat} (hi : i < ss.length) : delC (cl ss) ss.length i (i + 1) = cl (ss.take i ++ ss.drop (i + 1) ++ [zSp]) := by
  have hsz : Enc.sz Sp = 4 := rfl
  have hd : (cl ss).drop ((i + 1) * 4) = cl (ss.drop (i + 1)) := drop_cl ss (i + 1)
  have ht : (cl ss).take (i * 4) = cl (ss.take i) := take_cl ss i
  have hl : (cl ss).length = ss.length * 4 := length_cl ss
  have hll : (cl (ss.drop (i + 1))).length = (ss.length - (i + 1)) * 4 := by rw [length_cl, List.length_drop]; rfl
  have htl : (cl (ss.take i)).length = i * 4 := by rw [length_cl, List.length_take, Nat.min_eq_left (by omega)]; rfl
  unfold delC
  rw [hd]
  have e1 : cl ss = cl (ss.take i) ++ (((cl ss).drop (i * 4)).take ((ss.length - (i + 1)) * 4) ++ ((cl ss).drop (i * 4)).drop ((ss.length - (i + 1)) * 4)) := by
    rw [List.take_append_drop, ← ht, List.take_append_drop]
  have e2 : setCells (cl ss) (i * 4) (cl (ss.drop (i + 1))) = cl (ss.take i) ++ (cl (ss.drop (i + 1)) ++ ((cl ss).drop (i * 4)).drop ((ss.length - (i + 1)) * 4)) := by
    conv => lhs; rw [e1]
    exact setCells_mid _ _ _ _ _ htl.symm (by rw [List.length_take, List.length_drop, hl, hll]; omega)
  rw [e2]
  have e3 : (((cl ss).drop (i * 4)).drop ((ss.length - (i + 1)) * 4)).length = 4 := by rw [List.length_drop, List.length_drop, hl]; omega
  generalize ((cl ss).drop (i * 4)).drop ((ss.length - (i + 1)) * 4) = z at *
  have e4 := setCells_mid (cl (ss.take i) ++ cl (ss.drop (i + 1))) z [] (List.replicate ((ss.length - (i + (ss.length - (i + 1)))) * 4) (.int .i64 0)) ((i + (ss.length - (i + 1))) * 4) (by rw [List.length_append, htl, hll]; omega) (by rw [e3, List.length_replicate]; omega)
  rw [List.append_nil, List.append_nil, List.append_assoc] at e4
  rw [e4, show (ss.length - (i + (ss.length - (i + 1)))) * 4 = 4 by omega, cl_append, cl_append]
  rfl
theorem natD_45 {b gen n : Nat} {i j : Int} {H : Hp} : natD 45 [.msl true b gen 0 n 4, .int .i64 i, .int .i64 j] H = (H[b]?).bind fun B => if B.gen = gen ∧ B.xs.length = n * 4 ∧ 0 ≤ i ∧ i < j ∧ j ≤ n then some (.msl true b gen 0 (i.toNat + (n - j.toNat)) 4, H.set b ⟨B.e, gen, delC B.xs n i.toNat j.toNat⟩) else none := by
  with_unfolding_all rfl
theorem del_call {H : Hp} {b gen i : Nat} {ss : List Sp} (hb : H[b]? = some (bk 26 gen ss)) (hi : i < ss.length) : RO (tbM n2) 45 [mls Sp b gen ss.length, .int .i64 i, .int .i64 (i + 1)] H = some (mls Sp b gen (ss.length - 1), H.set b (bk 26 gen (ss.take i ++ ss.drop (i + 1) ++ [zSp]))) := by
  have hl : (cl ss).length = ss.length * 4 := length_cl ss
  refine MD (natD_45.trans ?_)
  rw [hb]
  simp only [Option.bind_some]
  rw [if_pos ⟨trivial, hl, by omega, by omega, by omega⟩, show (i : Int).toNat = i by omega, show (i + 1 : Int).toNat = i + 1 by omega, delC_cl hi, show i + (ss.length - (i + 1)) = ss.length - 1 by omega]
  rfl
theorem frz_cutS {gen k : Nat} {H : Hp} (A Z : List Sp) : frzB Sp H .any k (some (bk 26 gen (A ++ Z))) gen A.length = some (lst .any A) := by
  unfold frzB
  split
  · rename_i h0
    rw [List.length_eq_zero_iff.1 h0]; rfl
  · have h2 : mapO (frz H .any (k + 1)) (cl A) = some (cl A) := mapO_cl .any k A
    have h3 : List.take (A.length * Enc.sz Sp) (cl (A ++ Z)) = cl A := by
      rw [cl_append, List.take_append_of_le_length (by simp), ← length_cl, List.take_length]
    simp only [Option.bind_some]
    rw [if_pos ⟨trivial, by simp; omega⟩]
    simp only [Option.bind_some, h3, h2]
    rw [if_pos (by simp)]
    rfl
theorem clone_ok {ss : List Sp} (hss : ss.length ≤ 300) (hne : ss ≠ []) (hn : n2 46 [lst .any ss] [] = none) : RO (tbM n2) 46 [lst .any ss] [] = some (mls Sp 0 1 ss.length, [bk 26 1 ss]) := by
  have ha := evApp_ex_lst (nl := .any) (H := []) (ys := ss) (by omega)
  have hq2 : evEqNil false (lst .any ss) (.list .nil 1 []) = some (.bool false) := by
    cases ss with
    | nil => exact absurd rfl hne
    | cons s r => rfl
  have hr : rep 0 [PV.int .i64 0, PV.int .i64 0, PV.int .i64 0, PV.int .i64 0] = [] := rfl
  refine RO_of_G (F := pg46) (M_natO rfl rfl hn) rfl rfl ?_
  simp (disch := first | omega | with_unfolding_all rfl) [pg46, env0_eq, ha, hne, hq2, hr, -evEqNil]

theorem prI_nn {k : Int} {n : Nat} (hk : k = 0 ∨ k = 1) (hn : n ≤ 10) : 0 ≤ prI k n ∧ prI k n ≤ 1000000 := by
  obtain ⟨h1, h2⟩ := prI_rg hk hn
  have h5 : 0 ≤ ((n : Int) * n * 1000).tdiv 4 ∧ ((n : Int) * n * 1000).tdiv 4 ≤ 100000 := by rw [tdiv_nn (by omega)]; omega
  unfold prI
  generalize (n : Int) * n = m at *
  rcases hk with rfl | rfl <;> omega
/-- What dropping a span brings. -/
def back (l : Ld) (s : Sp) : Int := (prI s.k (btw l.w.toNat s.a s.b).length).tdiv 4
def dropE (l : Ld) (ss : List Sp) (n : Int) : Int := if lstErr l ss ≠ 0 then lstErr l ss else match hdF ss n with | some _ => 0 | none => 2
def dropN (l : Ld) (ss : List Sp) (n : Int) : Int := if lstErr l ss ≠ 0 then 0 else match hdF ss n with | some i => back l (spn ss i) | none => 0
/-- The list that is left; nl: whether an empty one is nil. -/
noncomputable def dropV (nl : Nl) (l : Ld) (ss : List Sp) (n : Int) : PV := if lstErr l ss ≠ 0 then .list .nil 1 [] else match hdF ss n with | some i => lst nl (ss.take i ++ ss.drop (i + 1)) | none => .list .nil 1 []
theorem hdF_spec {ss : List Sp} {n : Int} {i : Nat} (h : hdF ss n = some i) : i < ss.length ∧ isH n (spn ss i) = true ∧ ∀ j, j < i → isH n (spn ss j) = false := by
  unfold hdF firstN at h
  rw [List.find?_range_eq_some] at h
  obtain ⟨h1, h2, h3⟩ := h
  exact ⟨List.mem_range.1 h2, h1, fun j hj => by simpa using h3 j hj⟩
theorem drop_ok {l : Ld} (hf : l.nl ≠ .bor) (hb : l.xs.length ≤ 3000) {ss : List Sp} (hss : ss.length ≤ 300) (n : Int) (hn : ∀ (s : Sp) (r : List Sp), n2 46 [lst .any (s :: r)] [] = none) :
    R (tbM n2) 24 [vL l, lst .any ss, .int .i64 n] = some (.tup [dropV .any l ss n, .int .i64 (dropN l ss n), .int .i64 (dropE l ss n)]) := by
  have h1 := M2 (n2 := n2) (list_ok hf hb (snl := .any) hss)
  have h2 := head_ok (n2 := n2) (snl := .any) hss n
  have h0 := fun h => lst_0 (l := l) (ss := ss) h
  have hE : dropE l ss n = if lstErr l ss ≠ 0 then lstErr l ss else match hdF ss n with | some _ => 0 | none => 2 := rfl
  have hN : dropN l ss n = if lstErr l ss ≠ 0 then 0 else match hdF ss n with | some i => back l (spn ss i) | none => 0 := rfl
  have hV : dropV .any l ss n = if lstErr l ss ≠ 0 then .list .nil 1 [] else match hdF ss n with | some i => lst .any (ss.take i ++ ss.drop (i + 1)) | none => .list .nil 1 [] := rfl
  have hpr := fun (h : landErr l = 0) (s : Sp) (A B : Nat) (hk : s.k = 0 ∨ s.k = 1) (hab : A < B) (hB : B < l.w.toNat * l.h.toNat) (hd : byI l.w.toNat A B ≠ 0) hn => M2 (n2 := n2) (price_ok hf (good_nat h) (k := s.k) (u := s.u) hk hab hB hd hn)
  have hse : ∀ s, errS l s = sErr l l.w.toNat l.h.toNat s.k s.a s.b s.u := fun _ => rfl
  have hbk : ∀ s, back l s = (prI s.k (btw l.w.toNat s.a s.b).length).tdiv 4 := fun _ => rfl
  generalize dropE l ss n = rE at *
  generalize dropN l ss n = rN at *
  generalize dropV .any l ss n = rV at *
  generalize hle : lstErr l ss = le at *
  unfold hdI at h2
  obtain ⟨w, hh, nl, xs⟩ := l
  dsimp only at hf h1 hpr hse hbk
  refine R_of_G (F := pg24) (M_nat rfl) rfl rfl ?_
  by_cases c : le = 0
  case neg =>
    rw [if_pos c] at hE hN hV
    subst hE hN hV
    simp (disch := first | omega | with_unfolding_all rfl) [pg24, env0_eq, hf, h1, c]
  rw [if_neg (by omega)] at hE hN hV
  obtain ⟨h01, h02⟩ := h0 c
  have hpr := hpr h01
  simp (disch := first | omega | with_unfolding_all rfl) [pg24, env0_eq, hf, h1, c]
  cases hF : hdF ss n with
  | none =>
    simp only [hF] at h2 hE hN hV
    subst hE hN hV
    simp (disch := first | omega | with_unfolding_all rfl) [h2]
  | some i =>
    simp only [hF] at h2 hE hN hV
    subst hE hN hV
    obtain ⟨hi, _, _⟩ := hdF_spec hF
    have hs := h02 i hi
    rw [hse] at hs
    obtain ⟨hk, A, B, hA, hB, hab, hBN, hd, _, hnn⟩ := sErr_0 hs
    have hpr := hpr (spn ss i) A B hk hab hBN hd (by omega)
    have hbk := hbk (spn ss i)
    rw [hA, hB] at hbk
    obtain ⟨hp1, hp2⟩ := prI_nn (n := (btw w.toNat A B).length) hk (by omega)
    have hcl := clone_ok (n2 := n2) (ss := ss) hss (by rintro rfl; simp at hi) (by cases ss with | nil => simp at hi | cons s r => exact hn s r)
    have hdl := del_call (n2 := n2) (H := [bk 26 1 ss]) (b := 0) (gen := 1) (i := i) (ss := ss) rfl hi
    have hfz := fun k => frz_cutS (gen := 1) (k := k) (H := [bk 26 1 (ss.take i ++ ss.drop (i + 1) ++ [zSp])]) (ss.take i ++ ss.drop (i + 1)) [zSp]
    have hlen : (ss.take i ++ ss.drop (i + 1)).length = ss.length - 1 := by simp; omega
    rw [hlen] at hfz
    simp only [List.append_assoc] at hfz hdl
    generalize prI (spn ss i).k (btw w.toNat A B).length = p at *
    have h5 : IntKind.wrap .i64 (p.tdiv 4) = p.tdiv 4 := wrap_dv (by omega) (by omega) (by omega)
    simp (disch := first | omega | with_unfolding_all rfl) [h2, show ¬ (i : Int) < 0 from by omega]
    refine G_reg_chk ?_ ?_
    · refine all_cons_ck (ckOne_of rfl ?_) (all_cons_ck (ckOne_of rfl ?_) (all_cons_ck (ckOne_of rfl ?_) (all_cons_ck (ckOne_of rfl ?_) (all_cons_ck (ckOne_of rfl ?_) (all_cons_ck (ckOne_of rfl ?_) (all_cons_ck (ckOne_of rfl ?_) (all_cons_ck (ckOne_of rfl ?_) all_nil_ck)))))))
      all_goals simp (disch := first | omega | with_unfolding_all rfl) [hcl, hdl, hf, hi, spn_get, hA, hB, hpr]
    simp (disch := first | omega | with_unfolding_all rfl) [hcl, hdl, hf, hi, spn_get, hA, hB, hpr, h5, hfz, hbk]
end Go.Proofs.Ytpnhdcjfhlcgoaa
end

section
set_option linter.unusedVariables false
set_option linter.unusedSimpArgs false
set_option maxHeartbeats 4000000
set_option maxRecDepth 20000
namespace Go.Proofs.Ytpnhdcjfhlcgoaa
open Go.Proofs.Ytpnhdcjfhlcgoaa.PM
variable {n2 : Nat → List PV → Hp → Option (PV × Hp)}

theorem evApp_ex_nil {nl : Nl} {H : Hp} : evApp 26 4 32 (.list .ex 4 []) (lst nl ([] : List Sp)) H = some (.list .ex 4 [], H) := evApp_ex_lst (by simp)
theorem dropR_ok {l : Ld} (hf : l.nl ≠ .bor) (hb : l.xs.length ≤ 3000) {snl : Nl} {ss : List Sp} (hss : ss.length ≤ 300) (n : Int) :
    ∃ dn : Nl, R (tbM n2) 23 [vL l, lst snl ss, .int .i64 n] = some (.tup [dropV dn l ss n, .int .i64 (dropN l ss n), .int .i64 (dropE l ss n)]) := by
  refine ⟨if hdF ss n = some 0 ∧ ss.length = 1 then .ex else .any, ?_⟩
  generalize hdn : (if hdF ss n = some 0 ∧ ss.length = 1 then Nl.ex else Nl.any) = dn
  have h1 := M2 (n2 := n2) (listR_ok hf hb (snl := snl) hss)
  have h0 := fun h => lst_0 (l := l) (ss := ss) h
  have hE : dropE l ss n = if lstErr l ss ≠ 0 then lstErr l ss else match hdF ss n with | some _ => 0 | none => 2 := rfl
  have hN : dropN l ss n = if lstErr l ss ≠ 0 then 0 else match hdF ss n with | some i => back l (spn ss i) | none => 0 := rfl
  have hV : dropV dn l ss n = if lstErr l ss ≠ 0 then .list .nil 1 [] else match hdF ss n with | some i => lst dn (ss.take i ++ ss.drop (i + 1)) | none => .list .nil 1 [] := rfl
  have hpr := fun (h : landErr l = 0) (s : Sp) (A B : Nat) (hk : s.k = 0 ∨ s.k = 1) (hab : A < B) (hB : B < l.w.toNat * l.h.toNat) (hd : byI l.w.toNat A B ≠ 0) hn => M2 (n2 := n2) (priceR_ok hf (good_nat h) (k := s.k) (u := s.u) hk hab hB hd hn)
  have hse : ∀ s, errS l s = sErr l l.w.toNat l.h.toNat s.k s.a s.b s.u := fun _ => rfl
  have hbk : ∀ s, back l s = (prI s.k (btw l.w.toNat s.a s.b).length).tdiv 4 := fun _ => rfl
  generalize dropE l ss n = rE at *
  generalize dropN l ss n = rN at *
  generalize dropV dn l ss n = rV at *
  generalize hle : lstErr l ss = le at *
  obtain ⟨w, hh, nl, xs⟩ := l
  dsimp only at hf h1 hpr hse hbk
  refine R_of_G (F := pf23) (M_nat rfl) rfl rfl ?_
  by_cases c : le = 0
  case neg =>
    rw [if_pos c] at hE hN hV
    subst hE hN hV
    simp (disch := first | omega | with_unfolding_all rfl) [pf23, env0_eq, hf, h1, c]
  rw [if_neg (by omega)] at hE hN hV
  obtain ⟨h01, h02⟩ := h0 c
  have hpr := hpr h01
  simp (disch := first | omega | with_unfolding_all rfl) [pf23, env0_eq, hf, h1, c]
  refine G_scan (fun i e h => h = [] ∧ get e 1 = lst snl ss ∧ get e 2 = .int .i64 n ∧ get e 3 = .pptr (!(nl != .bor)) [.int .i64 w, .int .i64 hh, lst nl xs] 0 ∧ get e 10 = .int .i64 (i : Int))
    (fun i => isH n (spn ss i)) ss.length 0 ?_ (Nat.zero_le _) ?_
  · simp
  · rintro i e h - hi hz ⟨rfl, g1, g2, g3, g10⟩
    simp (disch := first | omega | with_unfolding_all rfl) [g1, g2, g3, g10]
    refine G_brd (fun hlt => ?_) (fun hlt => ?_)
    · have hI : isH n (spn ss i) = true → hdF ss n = some i := fun hb => firstN_some hlt hz hb
      have hs := h02 i hlt
      rw [hse] at hs
      obtain ⟨hk, A, B, hA, hB, hab, hBN, hd, _, hnn⟩ := sErr_0 hs
      have hpr := hpr (spn ss i) A B hk hab hBN hd (by omega)
      have hbk := hbk (spn ss i)
      rw [hA, hB] at hbk
      obtain ⟨hp1, hp2⟩ := prI_nn (n := (btw w.toNat A B).length) hk (by omega)
      generalize prI (spn ss i).k (btw w.toNat A B).length = p at *
      have h5 : IntKind.wrap .i64 (p.tdiv 4) = p.tdiv 4 := wrap_dv (by omega) (by omega) (by omega)
      have hpq : isH n (spn ss i) = (decide ((spn ss i).a = n) || decide ((spn ss i).b = n)) := rfl
      rw [hA, hB] at hpq
      by_cases hp : isH n (spn ss i) = true
      case neg =>
        have hp0 : isH n (spn ss i) = false := by simpa using hp
        rw [hp0] at hpq
        have q1 : ¬ (A : Int) = n := by intro q; simp [q] at hpq
        have q2 : ¬ (B : Int) = n := by intro q; simp [q] at hpq
        simp (disch := first | omega | with_unfolding_all rfl) [hlt, spn_get, hA, hB, q1, q2]
        simp [hp0, hlt]
      have hF := hI hp
      simp only [hF] at hE hN hV hdn
      rw [hE, hN, hV]
      have hr : rep 0 [PV.int .i64 0, PV.int .i64 0, PV.int .i64 0, PV.int .i64 0] = [] := rfl
      have hi1 : ((i : Int) + 1).toNat = i + 1 := by omega
      have hTl : (ss.take i).length = i := by simp; omega
      have hDl : (ss.drop (i + 1)).length = ss.length - (i + 1) := by simp
      have e4 : (4 : Nat) = Enc.sz Sp := rfl
      rw [hp] at hpq
      by_cases q : (A : Int) = n
      · skip
        simp (disch := first | omega | with_unfolding_all rfl) [hlt, spn_get, hA, hB, q, hr]
        generalize hT : ss.take i = T at *
        generalize hD : ss.drop (i + 1) = D at *
        have hT3 : T.length ≤ 3000 := by omega
        have hD3 : D.length ≤ 3000 := by omega
        by_cases z : i = 0
        · have hT0 : T = [] := List.length_eq_zero_iff.1 (by omega)
          subst hT0
          by_cases y : ss.length = 1
          · have hD0 : D = [] := List.length_eq_zero_iff.1 (by omega)
            subst hD0
            rw [if_pos ⟨by rw [z], y⟩] at hdn
            subst hdn
            simp (disch := first | omega | with_unfolding_all rfl) [hT, hD, hi1, evApp_ex_nil, hf, hlt, spn_get, hA, hB, hpr, h5, hbk]
            refine G_reg_chk ?_ ?_
            · refine (all_cons_ck (ckOne_of rfl ?_) (all_cons_ck (ckOne_of rfl ?_) (all_cons_ck (ckOne_of rfl ?_) (all_cons_ck (ckOne_of rfl ?_) all_nil_ck))))
              all_goals simp (disch := first | omega | with_unfolding_all rfl) [hT, hD, hi1, evApp_ex_nil, hf, hlt, spn_get, hA, hB, hpr, h5, hbk]
            simp (disch := first | omega | with_unfolding_all rfl) [hT, hD, hi1, evApp_ex_nil, hf, hlt, spn_get, hA, hB, hpr, h5, hbk]
            rfl
          · have hDn : D ≠ [] := by rintro rfl; simp at hDl; omega
            rw [if_neg (by rintro ⟨_, q⟩; exact y q)] at hdn
            subst hdn
            simp (disch := first | omega | with_unfolding_all rfl) [hT, hD, hi1, evApp_ex_nil, hf, hlt, spn_get, hA, hB, hpr, h5, hbk, evApp_ex_lst hD3, hDn]
            refine G_reg_chk ?_ ?_
            · refine (all_cons_ck (ckOne_of rfl ?_) (all_cons_ck (ckOne_of rfl ?_) (all_cons_ck (ckOne_of rfl ?_) (all_cons_ck (ckOne_of rfl ?_) all_nil_ck))))
              all_goals simp (disch := first | omega | with_unfolding_all rfl) [hT, hD, hi1, evApp_ex_nil, hf, hlt, spn_get, hA, hB, hpr, h5, hbk, evApp_ex_lst hD3, hDn]
            simp (disch := first | omega | with_unfolding_all rfl) [hT, hD, hi1, evApp_ex_nil, hf, hlt, spn_get, hA, hB, hpr, h5, hbk, evApp_ex_lst hD3, hDn]
        · have hTn : T ≠ [] := by rintro rfl; simp at hTl; omega
          rw [if_neg (by rintro ⟨q, _⟩; simp at q; exact z q)] at hdn
          subst hdn
          by_cases hDn : D = []
          · subst hDn
            simp (disch := first | omega | with_unfolding_all rfl) [hT, hD, hi1, evApp_ex_nil, hf, hlt, spn_get, hA, hB, hpr, h5, hbk, evApp_ex_lst hT3, hTn]
            refine G_reg_chk ?_ ?_
            · refine (all_cons_ck (ckOne_of rfl ?_) (all_cons_ck (ckOne_of rfl ?_) (all_cons_ck (ckOne_of rfl ?_) (all_cons_ck (ckOne_of rfl ?_) all_nil_ck))))
              all_goals simp (disch := first | omega | with_unfolding_all rfl) [hT, hD, hi1, evApp_ex_nil, hf, hlt, spn_get, hA, hB, hpr, h5, hbk, evApp_ex_lst hT3, hTn]
            simp (disch := first | omega | with_unfolding_all rfl) [hT, hD, hi1, evApp_ex_nil, hf, hlt, spn_get, hA, hB, hpr, h5, hbk, evApp_ex_lst hT3, hTn]
          · have hfzz := fun n H => frzB_bk (α := Sp) (xs := T ++ D) (nl' := .any) (n := n) (H := H) (gen := 2) (e := 26) (show T.length + D.length = (T ++ D).length by simp)
            simp (disch := first | omega | with_unfolding_all rfl) [hT, hD, hi1, evApp_ex_nil, hf, hlt, spn_get, hA, hB, hpr, h5, hbk, evApp_ex_lst hT3, hTn, hDn, hfzz]
            refine G_reg_chk ?_ ?_
            · refine (all_cons_ck (ckOne_of rfl ?_) (all_cons_ck (ckOne_of rfl ?_) (all_cons_ck (ckOne_of rfl ?_) (all_cons_ck (ckOne_of rfl ?_) all_nil_ck))))
              all_goals simp (disch := first | omega | with_unfolding_all rfl) [hT, hD, hi1, evApp_ex_nil, hf, hlt, spn_get, hA, hB, hpr, h5, hbk, evApp_ex_lst hT3, hTn, hDn, hfzz]
            simp (disch := first | omega | with_unfolding_all rfl) [hT, hD, hi1, evApp_ex_nil, hf, hlt, spn_get, hA, hB, hpr, h5, hbk, evApp_ex_lst hT3, hTn, hDn, hfzz]
      · have q2 : (B : Int) = n := by simpa [q] using hpq
        simp (disch := first | omega | with_unfolding_all rfl) [hlt, spn_get, hA, hB, q, q2, hr]
        generalize hT : ss.take i = T at *
        generalize hD : ss.drop (i + 1) = D at *
        have hT3 : T.length ≤ 3000 := by omega
        have hD3 : D.length ≤ 3000 := by omega
        by_cases z : i = 0
        · have hT0 : T = [] := List.length_eq_zero_iff.1 (by omega)
          subst hT0
          by_cases y : ss.length = 1
          · have hD0 : D = [] := List.length_eq_zero_iff.1 (by omega)
            subst hD0
            rw [if_pos ⟨by rw [z], y⟩] at hdn
            subst hdn
            simp (disch := first | omega | with_unfolding_all rfl) [hT, hD, hi1, evApp_ex_nil, hf, hlt, spn_get, hA, hB, hpr, h5, hbk]
            refine G_reg_chk ?_ ?_
            · refine (all_cons_ck (ckOne_of rfl ?_) (all_cons_ck (ckOne_of rfl ?_) (all_cons_ck (ckOne_of rfl ?_) (all_cons_ck (ckOne_of rfl ?_) all_nil_ck))))
              all_goals simp (disch := first | omega | with_unfolding_all rfl) [hT, hD, hi1, evApp_ex_nil, hf, hlt, spn_get, hA, hB, hpr, h5, hbk]
            simp (disch := first | omega | with_unfolding_all rfl) [hT, hD, hi1, evApp_ex_nil, hf, hlt, spn_get, hA, hB, hpr, h5, hbk]
            rfl
          · have hDn : D ≠ [] := by rintro rfl; simp at hDl; omega
            rw [if_neg (by rintro ⟨_, q⟩; exact y q)] at hdn
            subst hdn
            simp (disch := first | omega | with_unfolding_all rfl) [hT, hD, hi1, evApp_ex_nil, hf, hlt, spn_get, hA, hB, hpr, h5, hbk, evApp_ex_lst hD3, hDn]
            refine G_reg_chk ?_ ?_
            · refine (all_cons_ck (ckOne_of rfl ?_) (all_cons_ck (ckOne_of rfl ?_) (all_cons_ck (ckOne_of rfl ?_) (all_cons_ck (ckOne_of rfl ?_) all_nil_ck))))
              all_goals simp (disch := first | omega | with_unfolding_all rfl) [hT, hD, hi1, evApp_ex_nil, hf, hlt, spn_get, hA, hB, hpr, h5, hbk, evApp_ex_lst hD3, hDn]
            simp (disch := first | omega | with_unfolding_all rfl) [hT, hD, hi1, evApp_ex_nil, hf, hlt, spn_get, hA, hB, hpr, h5, hbk, evApp_ex_lst hD3, hDn]
        · have hTn : T ≠ [] := by rintro rfl; simp at hTl; omega
          rw [if_neg (by rintro ⟨q, _⟩; simp at q; exact z q)] at hdn
          subst hdn
          by_cases hDn : D = []
          · subst hDn
            simp (disch := first | omega | with_unfolding_all rfl) [hT, hD, hi1, evApp_ex_nil, hf, hlt, spn_get, hA, hB, hpr, h5, hbk, evApp_ex_lst hT3, hTn]
            refine G_reg_chk ?_ ?_
            · refine (all_cons_ck (ckOne_of rfl ?_) (all_cons_ck (ckOne_of rfl ?_) (all_cons_ck (ckOne_of rfl ?_) (all_cons_ck (ckOne_of rfl ?_) all_nil_ck))))
              all_goals simp (disch := first | omega | with_unfolding_all rfl) [hT, hD, hi1, evApp_ex_nil, hf, hlt, spn_get, hA, hB, hpr, h5, hbk, evApp_ex_lst hT3, hTn]
            simp (disch := first | omega | with_unfolding_all rfl) [hT, hD, hi1, evApp_ex_nil, hf, hlt, spn_get, hA, hB, hpr, h5, hbk, evApp_ex_lst hT3, hTn]
          · have hfzz := fun n H => frzB_bk (α := Sp) (xs := T ++ D) (nl' := .any) (n := n) (H := H) (gen := 2) (e := 26) (show T.length + D.length = (T ++ D).length by simp)
            simp (disch := first | omega | with_unfolding_all rfl) [hT, hD, hi1, evApp_ex_nil, hf, hlt, spn_get, hA, hB, hpr, h5, hbk, evApp_ex_lst hT3, hTn, hDn, hfzz]
            refine G_reg_chk ?_ ?_
            · refine (all_cons_ck (ckOne_of rfl ?_) (all_cons_ck (ckOne_of rfl ?_) (all_cons_ck (ckOne_of rfl ?_) (all_cons_ck (ckOne_of rfl ?_) all_nil_ck))))
              all_goals simp (disch := first | omega | with_unfolding_all rfl) [hT, hD, hi1, evApp_ex_nil, hf, hlt, spn_get, hA, hB, hpr, h5, hbk, evApp_ex_lst hT3, hTn, hDn, hfzz]
            simp (disch := first | omega | with_unfolding_all rfl) [hT, hD, hi1, evApp_ex_nil, hf, hlt, spn_get, hA, hB, hpr, h5, hbk, evApp_ex_lst hT3, hTn, hDn, hfzz]
    · have hF : hdF ss n = none := firstN_none (fun j hj => hz j (Nat.zero_le _) (by omega))
      simp only [hF] at hE hN hV
      rw [hE, hN, hV]
      simp (disch := first | omega | with_unfolding_all rfl) []

theorem same2_ok {n1 n3 : Nl} {ss : List Sp} (hs : ss.length ≤ 3000) : R tb 22 [lst n1 ss, lst n3 ss] = some (.bool true) := by
  refine R_of_G (F := pf22) rfl rfl rfl ?_
  simp (disch := first | omega | with_unfolding_all rfl) [pf22, env0_eq]
  refine G_loop (fun i e h => i ≤ ss.length ∧ h = [] ∧ get e 0 = lst n1 ss ∧ get e 1 = lst n3 ss ∧ get e 5 = .int .i64 (i : Int)) (fun i => ss.length - i) (a₀ := 0) ?_ ?_
  · simp
  rintro i e h ⟨hi, rfl, g0, g1, g5⟩
  simp (disch := first | omega | with_unfolding_all rfl) [g0, g1, g5]
  refine G_brd (fun hlt => ?_) (fun hlt => ?_)
  · simp (disch := first | omega | with_unfolding_all rfl) [hlt, spn_get]
    exact ⟨i + 1, by omega, by omega, by push_cast; rfl⟩
  · simp (disch := first | omega | with_unfolding_all rfl) [hlt]
theorem dropV_list (dn : Nl) (l : Ld) (ss : List Sp) (n : Int) : ∃ a b c, dropV dn l ss n = .list a b c := by
  unfold dropV
  split
  · exact ⟨_, _, _, rfl⟩
  · split <;> exact ⟨_, _, _, rfl⟩
theorem drops_ok {l : Ld} (hf : l.nl ≠ .bor) (hb : l.xs.length ≤ maxLen) {ss : List Sp} (hs : ss.length ≤ maxLen) (n : Int) (hn : ∀ (s : Sp) (r : List Sp), n2 46 [lst .any (s :: r)] [] = none) : R (tbM n2) 7 [vL l, lst .any ss, .int .i64 n] = some (.bool true) := by
  have h0 := M2 (n2 := n2) (far_ok hf hb (snl := .any) hs)
  have h1 := fun (h : l.xs.length ≤ 3000) (h' : ss.length ≤ 300) => drop_ok (n2 := n2) hf h h' n hn
  have h2 := fun (h : l.xs.length ≤ 3000) (h' : ss.length ≤ 300) => dropR_ok (n2 := n2) hf h (snl := .any) h' n
  have hk := M2 (n2 := n2) known_ok
  have h3 : ∀ dn, ss.length ≤ 300 → R (tbM n2) 22 [dropV .any l ss n, dropV dn l ss n] = some (.bool true) := by
    intro dn h
    unfold dropV
    split
    · exact M2 sameNil_ok
    · split
      · exact M2 (same2_ok (by simp; omega))
      · exact M2 sameNil_ok
  obtain ⟨a1, a2, a3, h4⟩ := dropV_list .any l ss n
  have h5 := fun dn => dropV_list dn l ss n
  rw [h4] at h1 h3
  generalize dropE l ss n = rE at *
  generalize dropN l ss n = rN at *
  by_cases c : 3000 < l.xs.length ∨ 300 < ss.length
  · have hc : (decide (3000 < l.xs.length) || decide (300 < ss.length)) = true := by simpa using c
    rw [hc] at h0
    obtain ⟨w, hh, nl, xs⟩ := l
    dsimp only at hf hb h0
    refine R_of_G (F := pf7) (M_nat rfl) rfl rfl ?_
    simp (disch := first | omega | with_unfolding_all rfl) [pf7, env0_eq, hf, h0, hk]
  · have hc : (decide (3000 < l.xs.length) || decide (300 < ss.length)) = false := by simp; omega
    rw [hc] at h0
    have h1 := h1 (by omega) (by omega)
    obtain ⟨dn, h2⟩ := h2 (by omega) (by omega)
    have h6 := h3 dn (by omega)
    obtain ⟨b1, b2, b3, h5⟩ := h5 dn
    rw [h5] at h2 h6
    obtain ⟨w, hh, nl, xs⟩ := l
    dsimp only at hf hb h0 h1 h2
    refine R_of_G (F := pf7) (M_nat rfl) rfl rfl ?_
    simp (disch := first | omega | with_unfolding_all rfl) [pf7, env0_eq, hf, h0, hk, h1, h2, h6]
/-- The table without a sort. -/
noncomputable def tbD : Table := tbM fun _ _ _ => none
theorem tbM_fns : ∀ x ∈ (tbM n2).fns, fnOk Try.prog x.1 x.2 = true :=
  List.forall_mem_cons.2 ⟨pf62_ok, List.forall_mem_cons.2 ⟨pf63_ok, List.forall_mem_cons.2 ⟨pf44_ok, List.forall_mem_cons.2 ⟨pf23_ok, List.forall_mem_cons.2 ⟨pg46_ok, List.forall_mem_cons.2 ⟨pg24_ok, List.forall_mem_cons.2 ⟨pf7_ok, List.forall_mem_cons.2 ⟨pf51_ok, List.forall_mem_cons.2 ⟨pf28_ok, List.forall_mem_cons.2 ⟨pf11_ok, List.forall_mem_cons.2 ⟨pf9_ok, List.forall_mem_cons.2 ⟨pf10_ok, fun _ h => (List.not_mem_nil h).elim⟩⟩⟩⟩⟩⟩⟩⟩⟩⟩⟩⟩
theorem tbM_ok (h2 : ∀ f args H r H', n2 f args H = some (r, H') → OpenOk Try.prog f args H r H') : TOk Try.prog (tbM n2) := ⟨tbM_fns,
  fun f args r h => R_ok tb_ok h, fun f args H r H' h => by
    change (match RO tb f args H with | some r => some r | none => match natD f args H with | some r => some r | none => n2 f args H) = _ at h
    split at h
    · rename_i q hq
      simp only [Option.some.injEq] at h
      subst h
      exact RO_ok tb_ok hq
    · split at h
      · rename_i q hq
        simp only [Option.some.injEq] at h
        subst h
        exact natD_ok _ _ _ _ _ hq
      · exact h2 _ _ _ _ _ h,
  fun _ _ _ h => (by cases h), sq64_ok, (by kernel_rfl)⟩
theorem tbD_ok : TOk Try.prog tbD := tbM_ok fun _ _ _ _ _ h => (by cases h)
end Go.Proofs.Ytpnhdcjfhlcgoaa
end
