/- Several texts in one: TrainVal, TrainVal2, TrainVd, TrainLarge, TrainShape, TrainSame38, TrainAsk. -/
import Derived.Test.YtiaeckidlmoohaaGreatTrainFldA
section
set_option linter.unusedVariables false
set_option linter.unusedSimpArgs false
set_option maxHeartbeats 8000000
set_option maxRecDepth 20000
namespace Go.Proofs.YtiaeckidlmoohaaGreat
open Go.Proofs.YtiaeckidlmoohaaGreat.PM
def ltJ (p q : Jo) : Bool := ltO p.a q.a || (decide (p.a = q.a) && ltO p.b q.b)
def badJ (js : List Jo) (i : Nat) : Bool := match js[i]? with | none => false | some q => decide (0 < i) && !(match js[i - 1]? with | some p => ltJ p q | none => true)
def badT (ts : List Tr) (i : Nat) : Bool := match ts[i]? with | some t => !fldT t | none => false
def badL (r : Rl) (js : List Jo) (i : Nat) : Bool := match js[i]? with | some q => !(lieS r q.a && lieS r q.b) | none => false
def badTL (r : Rl) (ts : List Tr) (i : Nat) : Bool := match ts[i]? with | some t => (wy t).any fun s => !lieS r s | none => false
noncomputable def badY (y : Yd) (i : Nat) : Bool := match y.t[i]? with | some t => !wayB y (wy t) | none => false
noncomputable def yErr (y : Yd) : Int :=
  if valErr y.r y.g = 0 then
    (if 80 < y.j.length ∨ 60 < y.t.length then 4 else if anyN (badJ y.j) 0 y.j.length = true then 1 else if anyN (badT y.t) 0 y.t.length = true then 1 else
      if anyN (badL y.r y.j) 0 y.j.length = true then 2 else if anyN (badTL y.r y.t) 0 y.t.length = true then 2 else if anyN (badY y) 0 y.t.length = true then 8 else 0)
  else valErr y.r y.g
structure Yk (y : Yd) : Prop where
  s : y.r.s.length ≤ 1100
  g : y.g.length ≤ 1100
  j : y.j.length ≤ 1100
  t : y.t.length ≤ 1100
  tr : ∀ t ∈ y.t, t.s.length ≤ 1100 ∧ t.a.length ≤ 1100 ∧ (t.n1 = .nil → t.s = [])
theorem cmS_eq0 (a b : So) : cmS a b = 0 ↔ a = b := by
  rw [so_ext]
  unfold cmS cmp
  repeat' split
  all_goals omega
theorem find2 (a b : Int) : (([a, b].find? (· ≠ 0)).getD 0 : Int) = if a = 0 then b else a := by
  by_cases h : a = 0
  · by_cases h2 : b = 0
    · simp only [List.find?_cons, List.find?_nil]; simp [h, h2]
    · simp only [List.find?_cons, List.find?_nil]; simp [h, h2]
  · simp only [List.find?_cons, List.find?_nil]; simp [h]
theorem or2J (p q : Jo) : decide (0 ≤ (([cmS p.a q.a, cmS p.b q.b].find? (· ≠ 0)).getD 0 : Int)) = !ltJ p q := by
  rw [find2]
  unfold ltJ ltO
  by_cases h1 : cmS p.a q.a = 0
  · have e : p.a = q.a := (cmS_eq0 _ _).1 h1
    rw [if_pos h1, decide_eq_false (show ¬ cmS p.a q.a < 0 by omega), decide_eq_true e, Bool.false_or, Bool.true_and, Bool.eq_iff_iff]; simp
  · have e : p.a ≠ q.a := fun e => h1 ((cmS_eq0 _ _).2 e)
    rw [if_neg h1, decide_eq_false e, Bool.false_and, Bool.or_false, Bool.eq_iff_iff]; simp
theorem validate0 {y : Yd} (h : valErr y.r y.g = 0) : Good y.r := by
  refine good_of ?_
  unfold valErr at h
  split at h
  · rename_i q; exact q
  · exact h
theorem fld_bounds {t : Tr} (h : fldT t = true) : (t.s = [] → t.a = []) := by
  unfold fldT at h
  rw [decide_eq_true_eq] at h
  intro q
  have : t.s.length = 0 := by rw [q]; rfl
  exact List.eq_nil_of_length_eq_zero (by omega)
theorem validateT_ok (y : Yd) (k : Yk y) : R tc 21 [vYd y] = some (.int .i64 (yErr y)) := by
  have hv := validate_ok y.r y.n1 y.g (by have := k.s; omega) (by have := k.g; omega)
  refine R_of_G (F := pf21) (tc_nat _ rfl) rfl rfl ?_
  by_cases h0 : valErr y.r y.g = 0
  case neg => simp (disch := first | omega | with_unfolding_all rfl) [pf21, env0_eq, hv, h0, yErr]
  have g := validate0 h0
  rw [h0] at hv
  by_cases h1 : 80 < y.j.length
  case pos =>
    have h1' : (80 : Int) < y.j.length := by omega
    simp (disch := first | omega | with_unfolding_all rfl) [pf21, env0_eq, hv, h0, h1, h1', yErr]
  by_cases h2 : 60 < y.t.length
  case pos =>
    have h1' : ¬ (80 : Int) < y.j.length := by omega
    have h2' : (60 : Int) < y.t.length := by omega
    simp (disch := first | omega | with_unfolding_all rfl) [pf21, env0_eq, hv, h0, h1, h1', h2, h2', yErr]
  have h1' : ¬ (80 : Int) < y.j.length := by omega
  have h2' : ¬ (60 : Int) < y.t.length := by omega
  have hY : yErr y = (if anyN (badJ y.j) 0 y.j.length = true then 1 else if anyN (badT y.t) 0 y.t.length = true then 1 else
      if anyN (badL y.r y.j) 0 y.j.length = true then 2 else if anyN (badTL y.r y.t) 0 y.t.length = true then 2 else if anyN (badY y) 0 y.t.length = true then 8 else 0) := by
    unfold yErr
    rw [if_pos h0, if_neg (by omega)]
  simp (disch := first | omega | with_unfolding_all rfl) [pf21, env0_eq, hv, h1', h2']
  refine G_scanC [1, 36, 37] 38 (badJ y.j) y.j.length 0 (by simp) (Nat.zero_le _) ?_
  rintro i e - hi hz hk g38
  simp at hk
  simp (disch := first | omega | with_unfolding_all rfl) [hk, g38]
  refine G_brd (fun d => ?_) (fun d => ?_)
  · have hin : i < y.j.length := by omega
    obtain ⟨x, hx⟩ : ∃ x, x = y.j[i] := ⟨_, rfl⟩
    have hb : badJ y.j i = (decide (0 < i) && !(match y.j[i - 1]? with | some p => ltJ p x | none => true)) := by
      unfold badJ; rw [List.getElem?_eq_getElem hin, ← hx]
    simp (disch := first | omega | with_unfolding_all rfl) [hk, g38, d, ← hx]
    by_cases hi0 : 0 < i
    · have hpl : i - 1 < y.j.length := by omega
      have hci : (i : Int) - 1 = ((i - 1 : Nat) : Int) := by omega
      obtain ⟨p, hp⟩ : ∃ p, p = y.j[i - 1] := ⟨_, rfl⟩
      have hca := compareT_ok p.a x.a
      have hcb := compareT_ok p.b x.b
      have hor := or_ok .ex [cmS p.a x.a, cmS p.b x.b] (by simp)
      have h2J := or2J p x
      rw [List.getElem?_eq_getElem hpl, ← hp] at hb
      dsimp only at hb
      simp only [vSo] at hca hcb
      generalize (([cmS p.a x.a, cmS p.b x.b].find? (· ≠ 0)).getD 0 : Int) = O at *
      simp (disch := first | omega | with_unfolding_all rfl) [hk, g38, hi0, hci, ← hp, hca, hcb, hor]
      refine G_brd (fun q => ?_) (fun q => ?_)
      · have hl : ltJ p x = false := by
          have : decide (0 ≤ O) = true := decide_eq_true q
          rw [this] at h2J; simpa using h2J.symm
        have hbt : badJ y.j i = true := by rw [hb, hl]; simp [hi0]
        have hE : yErr y = 1 := by rw [hY, if_pos (anyN_t (Nat.zero_le i) hin hbt)]
        simp (disch := first | omega | with_unfolding_all rfl) [hE]
      · have hl : ltJ p x = true := by
          have : decide (0 ≤ O) = false := decide_eq_false q
          rw [this] at h2J; simpa using h2J.symm
        have hbf : badJ y.j i = false := by rw [hb, hl]; simp
        simp (disch := first | omega | with_unfolding_all rfl) [hk, g38, hbf]
        try omega
    · have hbf : badJ y.j i = false := by rw [hb]; simp [hi0]
      simp (disch := first | omega | with_unfolding_all rfl) [hk, g38, hi0, hbf]
      try omega
  · have b1 : anyN (badJ y.j) 0 y.j.length = false := anyN_f fun j h1 h2 => hz j h1 (by omega)
    rw [if_neg (by rw [b1]; decide)] at hY
    clear hz
    simp (disch := first | omega | with_unfolding_all rfl) [hk, g38, d]
    refine G_scanC [1, 72, 73] 74 (badT y.t) y.t.length 0 (by simp) (Nat.zero_le _) ?_
    clear hk g38 d hi
    rintro i e - hi hz hk g74
    simp at hk
    simp (disch := first | omega | with_unfolding_all rfl) [hk, g74]
    refine G_brd (fun d => ?_) (fun d => ?_)
    · have hin : i < y.t.length := by omega
      obtain ⟨x, hx⟩ : ∃ x, x = y.t[i] := ⟨_, rfl⟩
      have hb : badT y.t i = !fldT x := by unfold badT; rw [List.getElem?_eq_getElem hin, ← hx]
      have hfl := fields_ok x
      simp (disch := first | omega | with_unfolding_all rfl) [hk, g74, d, ← hx, hfl]
      cases c : fldT x
      · rw [c] at hb
        have hE : yErr y = 1 := by rw [hY, if_pos (anyN_t (Nat.zero_le i) hin hb)]
        simp (disch := first | omega | with_unfolding_all rfl) [hE]
      · rw [c] at hb
        simp (disch := first | omega | with_unfolding_all rfl) [hk, g74, hb]
        try omega
    · have b2 : anyN (badT y.t) 0 y.t.length = false := anyN_f fun j h1 h2 => hz j h1 (by omega)
      rw [if_neg (by rw [b2]; decide)] at hY
      have hft : ∀ t ∈ y.t, fldT t = true := fun t ht => by
        obtain ⟨j, hj, rfl⟩ := List.getElem_of_mem ht
        have := hz j (Nat.zero_le _) (by omega)
        unfold badT at this
        rw [List.getElem?_eq_getElem hj] at this
        simpa using this
      clear hz
      simp (disch := first | omega | with_unfolding_all rfl) [hk, g74, d]
      refine G_scanC [1, 83, 84] 85 (badL y.r y.j) y.j.length 0 (by simp) (Nat.zero_le _) ?_
      clear hk g74 d hi
      rintro i e - hi hz hk g85
      simp at hk
      simp (disch := first | omega | with_unfolding_all rfl) [hk, g85]
      refine G_brd (fun d => ?_) (fun d => ?_)
      · have hin : i < y.j.length := by omega
        obtain ⟨x, hx⟩ : ∃ x, x = y.j[i] := ⟨_, rfl⟩
        have hb : badL y.r y.j i = !(lieS y.r x.a && lieS y.r x.b) := by unfold badL; rw [List.getElem?_eq_getElem hin, ← hx]
        have hla := liesT_ok g x.a
        have hlb := liesT_ok g x.b
        simp only [vSo] at hla hlb
        simp (disch := first | omega | with_unfolding_all rfl) [hk, g85, d, ← hx, hla]
        cases c1 : lieS y.r x.a
        · rw [c1] at hb
          have hE : yErr y = 2 := by rw [hY, if_pos (anyN_t (Nat.zero_le i) hin (by rw [hb]; rfl))]
          simp (disch := first | omega | with_unfolding_all rfl) [hE]
        · rw [c1] at hb
          simp (disch := first | omega | with_unfolding_all rfl) [hk, g85, hlb]
          cases c2 : lieS y.r x.b
          · rw [c2] at hb
            have hE : yErr y = 2 := by rw [hY, if_pos (anyN_t (Nat.zero_le i) hin (by rw [hb]; rfl))]
            simp (disch := first | omega | with_unfolding_all rfl) [hE]
          · rw [c2] at hb
            simp (disch := first | omega | with_unfolding_all rfl) [hk, g85, hb]
            try omega
      · have b3 : anyN (badL y.r y.j) 0 y.j.length = false := anyN_f fun j h1 h2 => hz j h1 (by omega)
        rw [if_neg (by rw [b3]; decide)] at hY
        clear hz
        simp (disch := first | omega | with_unfolding_all rfl) [hk, g85, d]
        refine G_scanC [1, 105, 106] 107 (badTL y.r y.t) y.t.length 0 (by simp) (Nat.zero_le _) ?_
        clear hk g85 d hi
        rintro i e - hi hz hk g107
        simp at hk
        simp (disch := first | omega | with_unfolding_all rfl) [hk, g107]
        refine G_brd (fun d => ?_) (fun d => ?_)
        · have hin : i < y.t.length := by omega
          obtain ⟨x, hx⟩ : ∃ x, x = y.t[i] := ⟨_, rfl⟩
          have hxm : x ∈ y.t := by rw [hx]; exact List.getElem_mem hin
          have hb : badTL y.r y.t i = (wy x).any fun s => !lieS y.r s := by unfold badTL; rw [List.getElem?_eq_getElem hin, ← hx]
          have hkt := k.tr x hxm
          obtain ⟨nl, hnl, hwh⟩ := whole_ok x hkt.2.2 (fld_bounds (hft x hxm)) (by omega) (by omega)
          obtain ⟨W, hW⟩ : ∃ W, W = wy x := ⟨_, rfl⟩
          have hWl : W.length ≤ 2200 := by rw [hW]; simp [wy]; omega
          rw [← hW] at hb hwh
          simp (disch := first | omega | with_unfolding_all rfl) [hk, g107, d, ← hx, hwh]
          refine G_scanC [1, 105, 106, 107, 112, 113] 114 (fun j => match W[j]? with | some s => !lieS y.r s | none => false) W.length 0 (by simp) (Nat.zero_le _) ?_
          rintro j e2 - hj2 hz2 hk2 g114
          simp at hk2
          simp (disch := first | omega | with_unfolding_all rfl) [hk, g107, hk2, g114]
          refine G_brd (fun d2 => ?_) (fun d2 => ?_)
          · have hjn : j < W.length := by omega
            obtain ⟨z, hz3⟩ : ∃ z, z = W[j] := ⟨_, rfl⟩
            have hlz := liesT_ok g z
            simp only [vSo] at hlz
            simp (disch := first | omega | with_unfolding_all rfl) [hk, g107, hk2, g114, d2, ← hz3, hlz]
            cases c : lieS y.r z
            · have hbt : badTL y.r y.t i = true := by
                rw [hb, List.any_eq_true]
                exact ⟨z, by rw [hz3]; exact List.getElem_mem hjn, by rw [c]; rfl⟩
              have hE : yErr y = 2 := by rw [hY, if_pos (anyN_t (Nat.zero_le i) hin hbt)]
              simp (disch := first | omega | with_unfolding_all rfl) [hE]
            · simp (disch := first | omega | with_unfolding_all rfl) [hk, g107, hk2, g114, c]
              try omega
          · have hbf : badTL y.r y.t i = false := by
              rw [hb, Bool.eq_false_iff]
              intro q
              rw [List.any_eq_true] at q
              obtain ⟨z, hz3, hz4⟩ := q
              obtain ⟨j2, hj3, rfl⟩ := List.getElem_of_mem hz3
              have := hz2 j2 (Nat.zero_le _) (by omega)
              simp only [List.getElem?_eq_getElem hj3] at this
              rw [this] at hz4; cases hz4
            simp (disch := first | omega | with_unfolding_all rfl) [hk, g107, hk2, g114, d2, hbf]
            try omega
        · have b4 : anyN (badTL y.r y.t) 0 y.t.length = false := anyN_f fun j h1 h2 => hz j h1 (by omega)
          rw [if_neg (by rw [b4]; decide)] at hY
          have hlt : ∀ t ∈ y.t, ∀ s ∈ wy t, lieS y.r s = true := fun t ht s hs => by
            obtain ⟨j, hj, rfl⟩ := List.getElem_of_mem ht
            have := hz j (Nat.zero_le _) (by omega)
            unfold badTL at this
            rw [List.getElem?_eq_getElem hj] at this
            simp at this
            exact this s hs
          clear hz
          obtain ⟨F, hF, hFd⟩ := fieldOf_ok y (by have := k.g; omega) (by have := k.j; omega)
          have hpath : ∀ {nl : Nl} {l : List So}, l.length ≤ 10000 → (∀ s ∈ l, lieS y.r s = true) → R tc 61 [F, lst nl l] = some (.bool (wayB y l)) := fun h1 h2 => path_ok hFd g (by have := k.j; omega) h1 h2
          obtain ⟨ks1, vs1, ks2, vs2, -, -⟩ := hFd
          simp (disch := first | omega | with_unfolding_all rfl) [hk, g107, d, hF]
          refine G_scanC [14, 128, 129] 130 (badY y) y.t.length 0 (by simp) (Nat.zero_le _) ?_
          clear hk g107 d hi
          rintro i e - hi hz hk g130
          simp at hk
          simp (disch := first | omega | with_unfolding_all rfl) [hk, g130]
          refine G_brd (fun d => ?_) (fun d => ?_)
          · have hin : i < y.t.length := by omega
            obtain ⟨x, hx⟩ : ∃ x, x = y.t[i] := ⟨_, rfl⟩
            have hxm : x ∈ y.t := by rw [hx]; exact List.getElem_mem hin
            have hb : badY y i = !wayB y (wy x) := by unfold badY; rw [List.getElem?_eq_getElem hin, ← hx]
            have hkt := k.tr x hxm
            obtain ⟨nl, hnl, hwh⟩ := whole_ok x hkt.2.2 (fld_bounds (hft x hxm)) (by omega) (by omega)
            have hp := hpath (nl := nl) (l := wy x) (by simp [wy]; omega) (hlt x hxm)
            simp (disch := first | omega | with_unfolding_all rfl) [hk, g130, d, ← hx, hwh, hp]
            cases c : wayB y (wy x)
            · rw [c] at hb
              have hE : yErr y = 8 := by rw [hY, if_pos (anyN_t (Nat.zero_le i) hin hb)]
              simp (disch := first | omega | with_unfolding_all rfl) [hE]
            · rw [c] at hb
              simp (disch := first | omega | with_unfolding_all rfl) [hk, g130, hb]
              try omega
          · have b5 : anyN (badY y) 0 y.t.length = false := anyN_f fun j h1 h2 => hz j h1 (by omega)
            rw [if_neg (by rw [b5]; decide)] at hY
            simp (disch := first | omega | with_unfolding_all rfl) [hk, g130, d, hY]
end Go.Proofs.YtiaeckidlmoohaaGreat
end
section
set_option linter.unusedVariables false
set_option linter.unusedSimpArgs false
set_option maxHeartbeats 8000000
set_option maxRecDepth 20000
namespace Go.Proofs.YtiaeckidlmoohaaGreat
open Go.Proofs.YtiaeckidlmoohaaGreat.PM
theorem order_ok {nl : Nl} (js : List Jo) (hj : js.length ≤ 2000) : R tc 64 [lst nl js] = some (.bool (!anyN (badJ js) 0 js.length)) := by
  have hb0 : anyN (badJ js) 0 js.length = anyN (badJ js) 1 js.length := by
    have h0 : badJ js 0 = false := by unfold badJ; cases js[0]? <;> simp
    cases h : anyN (badJ js) 1 js.length
    · refine anyN_f fun j h1 h2 => ?_
      by_cases c : j = 0
      · rw [c]; exact h0
      · exact anyN_off h (by omega) h2
    · unfold anyN at h ⊢
      rw [List.any_eq_true] at h ⊢
      obtain ⟨j, hj, hf⟩ := h
      refine ⟨j, ?_, hf⟩
      simp at hj ⊢
      omega
  refine R_of_G (F := pf64) (tc_nat _ rfl) rfl rfl ?_
  simp (disch := first | omega | with_unfolding_all rfl) [pf64, env0_eq]
  refine G_scanC [0] 3 (badJ js) (max 1 js.length) 1 (by simp) (by omega) ?_
  rintro i e hi1 hi hz hk g3
  simp at hk
  simp (disch := first | omega | with_unfolding_all rfl) [hk, g3]
  refine G_brd (fun d => ?_) (fun d => ?_)
  · have hin : i < js.length := by omega
    have hpl : i - 1 < js.length := by omega
    have hci : (i : Int) - 1 = ((i - 1 : Nat) : Int) := by omega
    obtain ⟨x, hx⟩ : ∃ x, x = js[i] := ⟨_, rfl⟩
    obtain ⟨p, hp⟩ : ∃ p, p = js[i - 1] := ⟨_, rfl⟩
    have hb : badJ js i = !ltJ p x := by
      unfold badJ; rw [List.getElem?_eq_getElem hin, ← hx, List.getElem?_eq_getElem hpl, ← hp]
      have : 0 < i := by omega
      simp [this]
    have hla := lessR_ok p.a x.a
    have hlb := lessR_ok p.b x.b
    simp only [vSo] at hla hlb
    simp (disch := first | omega | with_unfolding_all rfl) [hk, g3, d]
    refine G_reg_chk ?_ ?_
    · refine (all_cons_ck (ckOne_of rfl ?_) (all_cons_ck (ckOne_of rfl ?_) (all_cons_ck (ckOne_of rfl ?_) (all_cons_ck (ckOne_of rfl ?_) all_nil_ck))))
      all_goals simp (disch := first | omega | with_unfolding_all rfl) [hci]
    have hbb : ∀ u v : So, (u.t == v.t && (u.p == v.p && u.o == v.o)) = decide (u = v) := fun u v => by
      rw [Bool.eq_iff_iff]; simp [so_ext]
    have e1 := hbb p.a x.a
    simp (disch := first | omega | with_unfolding_all rfl) [hk, g3, d, hci, ← hx, ← hp, hla]
    unfold ltJ at hb
    cases c1 : ltO p.a x.a
    · rw [c1, Bool.false_or] at hb
      simp (disch := first | omega | with_unfolding_all rfl) [hk, g3, e1]
      by_cases c2 : p.a = x.a
      · rw [decide_eq_true c2, Bool.true_and] at hb
        simp (disch := first | omega | with_unfolding_all rfl) [hk, g3, c2, hlb]
        cases c3 : ltO p.b x.b
        · rw [c3] at hb
          have hbt : anyN (badJ js) 1 js.length = true := anyN_t hi1 hin (by rw [hb]; rfl)
          simp (disch := first | omega | with_unfolding_all rfl) [hb0, hbt]
        · rw [c3] at hb
          simp (disch := first | omega | with_unfolding_all rfl) [hk, g3, hb]
          try omega
      · rw [decide_eq_false c2, Bool.false_and] at hb
        have hbt : anyN (badJ js) 1 js.length = true := anyN_t hi1 hin (by rw [hb]; rfl)
        simp (disch := first | omega | with_unfolding_all rfl) [hk, g3, c2, hb0, hbt]
    · rw [c1, Bool.true_or] at hb
      simp (disch := first | omega | with_unfolding_all rfl) [hk, g3, hb]
      try omega
  · have hb1 : anyN (badJ js) 1 js.length = false := anyN_f fun j h1 h2 => hz j h1 (by omega)
    simp (disch := first | omega | with_unfolding_all rfl) [hk, g3, d, hb0, hb1]
theorem refValidateT_ok (y : Yd) (k : Yk y) : R tc 22 [vYd y] = some (.int .i64 (yErr y)) := by
  have hv := refValidate_ok y.r y.n1 y.g (by have := k.s; omega) (by have := k.g; omega)
  have hrv := refRailV_ok y.r (by have := k.s; omega)
  refine R_of_G (F := pf22) (tc_nat _ rfl) rfl rfl ?_
  by_cases h0 : valErr y.r y.g = 0
  case neg =>
    by_cases hr0 : railErr y.r = 0
    · rw [hr0] at hrv
      simp (disch := first | omega | with_unfolding_all rfl) [pf22, env0_eq, hrv, hv, h0, yErr]
    · have hvr : valErr y.r y.g = railErr y.r := by unfold valErr; rw [if_neg hr0]
      have hE : yErr y = railErr y.r := by unfold yErr; rw [if_neg h0, hvr]
      simp (disch := first | omega | with_unfolding_all rfl) [pf22, env0_eq, hrv, hr0, hE]
  have hr0 : railErr y.r = 0 := by
    unfold valErr at h0
    by_cases c : railErr y.r = 0
    · exact c
    · rw [if_neg c] at h0; exact h0
  rw [hr0] at hrv
  have g := validate0 h0
  rw [h0] at hv
  by_cases h1 : 80 < y.j.length
  case pos =>
    have h1' : (80 : Int) < y.j.length := by omega
    simp (disch := first | omega | with_unfolding_all rfl) [pf22, env0_eq, hrv, hv, h0, h1, h1', yErr]
  by_cases h2 : 60 < y.t.length
  case pos =>
    have h1' : ¬ (80 : Int) < y.j.length := by omega
    have h2' : (60 : Int) < y.t.length := by omega
    simp (disch := first | omega | with_unfolding_all rfl) [pf22, env0_eq, hrv, hv, h0, h1, h1', h2, h2', yErr]
  have h1' : ¬ (80 : Int) < y.j.length := by omega
  have h2' : ¬ (60 : Int) < y.t.length := by omega
  have hY : yErr y = (if anyN (badJ y.j) 0 y.j.length = true then 1 else if anyN (badT y.t) 0 y.t.length = true then 1 else
      if anyN (badL y.r y.j) 0 y.j.length = true then 2 else if anyN (badTL y.r y.t) 0 y.t.length = true then 2 else if anyN (badY y) 0 y.t.length = true then 8 else 0) := by
    unfold yErr
    rw [if_pos h0, if_neg (by omega)]
  have ho := order_ok (nl := y.n2) y.j (by have := k.j; omega)
  cases b1 : anyN (badJ y.j) 0 y.j.length
  case true =>
    rw [b1] at ho
    have hE : yErr y = 1 := by rw [hY, if_pos b1]
    simp (disch := first | omega | with_unfolding_all rfl) [pf22, env0_eq, hrv, hv, h1', h2', ho, hE]
  case false =>
    rw [b1] at ho
    rw [if_neg (by rw [b1]; decide)] at hY
    simp (disch := first | omega | with_unfolding_all rfl) [pf22, env0_eq, hrv, hv, h1', h2', ho]
    refine G_scanC [1, 44, 45] 46 (badT y.t) y.t.length 0 (by simp) (Nat.zero_le _) ?_
    rintro i e - hi hz hk g46
    simp at hk
    simp (disch := first | omega | with_unfolding_all rfl) [hk, g46]
    refine G_brd (fun d => ?_) (fun d => ?_)
    · have hin : i < y.t.length := by omega
      obtain ⟨x, hx⟩ : ∃ x, x = y.t[i] := ⟨_, rfl⟩
      have hb : badT y.t i = !fldT x := by unfold badT; rw [List.getElem?_eq_getElem hin, ← hx]
      have hE1 : fldT x = false → yErr y = 1 := fun q => by
        rw [q] at hb
        rw [hY, if_pos (anyN_t (Nat.zero_le i) hin hb)]
      have hw1 := within_ok x.n 1 20
      have hw2 := within_ok x.v 0 192
      have hw3 := within_ok x.d 0 191
      have hfd : fldT x = decide (1 ≤ x.n ∧ x.n ≤ 20 ∧ 0 ≤ x.v ∧ x.v ≤ 192 ∧ 0 ≤ x.d ∧ x.d < 192 ∧ (x.s.length : Int) ≤ x.n ∧ (x.a.length : Int) ≤ 60 ∧ (0 < (x.s.length : Int) ∨ (x.a.length : Int) = 0)) := rfl
      by_cases c1 : 1 ≤ x.n ∧ x.n ≤ 20
      case neg =>
        rw [decide_eq_false c1] at hw1
        simp (disch := first | omega | with_unfolding_all rfl) [hk, g46, d, ← hx, hw1, hE1 (by rw [hfd]; exact decide_eq_false (by omega))]
      by_cases c2 : 0 ≤ x.v ∧ x.v ≤ 192
      case neg =>
        rw [decide_eq_true c1] at hw1
        rw [decide_eq_false c2] at hw2
        simp (disch := first | omega | with_unfolding_all rfl) [hk, g46, d, ← hx, hw1, hw2, hE1 (by rw [hfd]; exact decide_eq_false (by omega))]
      by_cases c3 : 0 ≤ x.d ∧ x.d ≤ 191
      case neg =>
        rw [decide_eq_true c1] at hw1
        rw [decide_eq_true c2] at hw2
        rw [decide_eq_false c3] at hw3
        simp (disch := first | omega | with_unfolding_all rfl) [hk, g46, d, ← hx, hw1, hw2, hw3, hE1 (by rw [hfd]; exact decide_eq_false (by omega))]
      rw [decide_eq_true c1] at hw1
      rw [decide_eq_true c2] at hw2
      rw [decide_eq_true c3] at hw3
      by_cases c4 : x.n < (x.s.length : Int)
      case pos => simp (disch := first | omega | with_unfolding_all rfl) [hk, g46, d, ← hx, hw1, hw2, hw3, c4, hE1 (by rw [hfd]; exact decide_eq_false (by omega))]
      by_cases c5 : 60 < (x.a.length : Int)
      case pos => simp (disch := first | omega | with_unfolding_all rfl) [hk, g46, d, ← hx, hw1, hw2, hw3, c4, c5, hE1 (by rw [hfd]; exact decide_eq_false (by omega))]
      by_cases c6 : 0 < x.a.length ∧ x.s.length = 0
      case pos =>
        have c9 : ¬ x.n < 0 := by omega
        simp (disch := first | omega | with_unfolding_all rfl) [hk, g46, d, ← hx, hw1, hw2, hw3, c4, c5, c9, c6.1, c6.2, hE1 (by rw [hfd]; exact decide_eq_false (by omega))]
      have hbf : badT y.t i = false := by
        rw [hb, hfd, decide_eq_true (by omega)]; rfl
      by_cases c7 : 0 < x.a.length
      · have c8 : ¬ x.s.length = 0 := by omega
        simp (disch := first | omega | with_unfolding_all rfl) [hk, g46, d, ← hx, hw1, hw2, hw3, c4, c5, c7, c8, hbf]
        try omega
      · simp (disch := first | omega | with_unfolding_all rfl) [hk, g46, d, ← hx, hw1, hw2, hw3, c4, c5, c7, hbf]
        try omega
    · have b2 : anyN (badT y.t) 0 y.t.length = false := anyN_f fun j h1 h2 => hz j h1 (by omega)
      rw [if_neg (by rw [b2]; decide)] at hY
      have hft : ∀ t ∈ y.t, fldT t = true := fun t ht => by
        obtain ⟨j, hj, rfl⟩ := List.getElem_of_mem ht
        have := hz j (Nat.zero_le _) (by omega)
        unfold badT at this
        rw [List.getElem?_eq_getElem hj] at this
        simpa using this
      clear hz
      simp (disch := first | omega | with_unfolding_all rfl) [hk, g46, d]
      refine G_scanC [1, 94, 95] 96 (badL y.r y.j) y.j.length 0 (by simp) (Nat.zero_le _) ?_
      clear hk g46 d hi
      rintro i e - hi hz hk g96
      simp at hk
      simp (disch := first | omega | with_unfolding_all rfl) [hk, g96]
      refine G_brd (fun d => ?_) (fun d => ?_)
      · have hin : i < y.j.length := by omega
        obtain ⟨x, hx⟩ : ∃ x, x = y.j[i] := ⟨_, rfl⟩
        have hb : badL y.r y.j i = !(lieS y.r x.a && lieS y.r x.b) := by unfold badL; rw [List.getElem?_eq_getElem hin, ← hx]
        have hla := liesR_ok g x.a
        have hlb := liesR_ok g x.b
        simp only [vSo] at hla hlb
        simp (disch := first | omega | with_unfolding_all rfl) [hk, g96, d, ← hx, hla]
        cases c1 : lieS y.r x.a
        · rw [c1] at hb
          have hE : yErr y = 2 := by rw [hY, if_pos (anyN_t (Nat.zero_le i) hin (by rw [hb]; rfl))]
          simp (disch := first | omega | with_unfolding_all rfl) [hE]
        · rw [c1] at hb
          simp (disch := first | omega | with_unfolding_all rfl) [hk, g96, hlb]
          cases c2 : lieS y.r x.b
          · rw [c2] at hb
            have hE : yErr y = 2 := by rw [hY, if_pos (anyN_t (Nat.zero_le i) hin (by rw [hb]; rfl))]
            simp (disch := first | omega | with_unfolding_all rfl) [hE]
          · rw [c2] at hb
            simp (disch := first | omega | with_unfolding_all rfl) [hk, g96, hb]
            try omega
      · have b3 : anyN (badL y.r y.j) 0 y.j.length = false := anyN_f fun j h1 h2 => hz j h1 (by omega)
        rw [if_neg (by rw [b3]; decide)] at hY
        clear hz
        simp (disch := first | omega | with_unfolding_all rfl) [hk, g96, d]
        refine G_scanC [1, 116, 117] 118 (badTL y.r y.t) y.t.length 0 (by simp) (Nat.zero_le _) ?_
        clear hk g96 d hi
        rintro i e - hi hz hk g118
        simp at hk
        simp (disch := first | omega | with_unfolding_all rfl) [hk, g118]
        refine G_brd (fun d => ?_) (fun d => ?_)
        · have hin : i < y.t.length := by omega
          obtain ⟨x, hx⟩ : ∃ x, x = y.t[i] := ⟨_, rfl⟩
          have hxm : x ∈ y.t := by rw [hx]; exact List.getElem_mem hin
          have hb : badTL y.r y.t i = (wy x).any fun s => !lieS y.r s := by unfold badTL; rw [List.getElem?_eq_getElem hin, ← hx]
          have hkt := k.tr x hxm
          have hwh := way_ok x (by omega) (by omega)
          obtain ⟨W, hW⟩ : ∃ W, W = wy x := ⟨_, rfl⟩
          have hWl : W.length ≤ 2200 := by rw [hW]; simp [wy]; omega
          rw [← hW] at hb hwh
          simp (disch := first | omega | with_unfolding_all rfl) [hk, g118, d, ← hx, hwh]
          refine G_scanC [1, 116, 117, 118, 123, 124] 125 (fun j => match W[j]? with | some s => !lieS y.r s | none => false) W.length 0 (by simp) (Nat.zero_le _) ?_
          rintro j e2 - hj2 hz2 hk2 g125
          simp at hk2
          simp (disch := first | omega | with_unfolding_all rfl) [hk, g118, hk2, g125]
          refine G_brd (fun d2 => ?_) (fun d2 => ?_)
          · have hjn : j < W.length := by omega
            obtain ⟨z, hz3⟩ : ∃ z, z = W[j] := ⟨_, rfl⟩
            have hlz := liesR_ok g z
            simp only [vSo] at hlz
            simp (disch := first | omega | with_unfolding_all rfl) [hk, g118, hk2, g125, d2, ← hz3, hlz]
            cases c : lieS y.r z
            · have hbt : badTL y.r y.t i = true := by
                rw [hb, List.any_eq_true]
                exact ⟨z, by rw [hz3]; exact List.getElem_mem hjn, by rw [c]; rfl⟩
              have hE : yErr y = 2 := by rw [hY, if_pos (anyN_t (Nat.zero_le i) hin hbt)]
              simp (disch := first | omega | with_unfolding_all rfl) [hE]
            · simp (disch := first | omega | with_unfolding_all rfl) [hk, g118, hk2, g125, c]
              try omega
          · have hbf : badTL y.r y.t i = false := by
              rw [hb, Bool.eq_false_iff]
              intro q
              rw [List.any_eq_true] at q
              obtain ⟨z, hz3, hz4⟩ := q
              obtain ⟨j2, hj3, rfl⟩ := List.getElem_of_mem hz3
              have := hz2 j2 (Nat.zero_le _) (by omega)
              simp only [List.getElem?_eq_getElem hj3] at this
              rw [this] at hz4; cases hz4
            simp (disch := first | omega | with_unfolding_all rfl) [hk, g118, hk2, g125, d2, hbf]
            try omega
        · have b4 : anyN (badTL y.r y.t) 0 y.t.length = false := anyN_f fun j h1 h2 => hz j h1 (by omega)
          rw [if_neg (by rw [b4]; decide)] at hY
          have hlt : ∀ t ∈ y.t, ∀ s ∈ wy t, lieS y.r s = true := fun t ht s hs => by
            obtain ⟨j, hj, rfl⟩ := List.getElem_of_mem ht
            have := hz j (Nat.zero_le _) (by omega)
            unfold badTL at this
            rw [List.getElem?_eq_getElem hj] at this
            simp at this
            exact this s hs
          clear hz
          simp (disch := first | omega | with_unfolding_all rfl) [hk, g118, d]
          refine G_scanC [1, 137, 138] 139 (badY y) y.t.length 0 (by simp) (Nat.zero_le _) ?_
          clear hk g118 d hi
          rintro i e - hi hz hk g139
          simp at hk
          simp (disch := first | omega | with_unfolding_all rfl) [hk, g139]
          refine G_brd (fun d => ?_) (fun d => ?_)
          · have hin : i < y.t.length := by omega
            obtain ⟨x, hx⟩ : ∃ x, x = y.t[i] := ⟨_, rfl⟩
            have hxm : x ∈ y.t := by rw [hx]; exact List.getElem_mem hin
            have hb : badY y i = !wayB y (wy x) := by unfold badY; rw [List.getElem?_eq_getElem hin, ← hx]
            have hkt := k.tr x hxm
            have hwh := way_ok x (by omega) (by omega)
            have hp := one_ok g (y := y) (by have := k.j; omega) (nl := .any) (l := wy x) (by simp [wy]; omega) (hlt x hxm)
            simp only [vYd] at hp
            simp (disch := first | omega | with_unfolding_all rfl) [hk, g139, d, ← hx, hwh, hp]
            cases c : wayB y (wy x)
            · rw [c] at hb
              have hE : yErr y = 8 := by rw [hY, if_pos (anyN_t (Nat.zero_le i) hin hb)]
              simp (disch := first | omega | with_unfolding_all rfl) [hE]
            · rw [c] at hb
              simp (disch := first | omega | with_unfolding_all rfl) [hk, g139, hb]
              try omega
          · have b5 : anyN (badY y) 0 y.t.length = false := anyN_f fun j h1 h2 => hz j h1 (by omega)
            rw [if_neg (by rw [b5]; decide)] at hY
            simp (disch := first | omega | with_unfolding_all rfl) [hk, g139, d, hY]
end Go.Proofs.YtiaeckidlmoohaaGreat
end
section
set_option linter.unusedVariables false
set_option linter.unusedSimpArgs false
set_option maxHeartbeats 4000000
namespace Go.Proofs.YtiaeckidlmoohaaGreat
open Go.Proofs.YtiaeckidlmoohaaGreat.PM
theorem ROnat {T : Table} {f : Nat} {args : List PV} {H H' : Hp} {r : PV} (hn : T.natO f args H = some (r, H')) : RO T f args H = some (r, H') := by
  unfold RO callO
  rw [hn]
structure Val (y : Yd) : Prop where
  e : yErr y = 0
  k : Yk y
theorem Val.parts {y : Yd} (h : yErr y = 0) : valErr y.r y.g = 0 ∧ y.j.length ≤ 80 ∧ y.t.length ≤ 60 ∧ anyN (badJ y.j) 0 y.j.length = false ∧ anyN (badT y.t) 0 y.t.length = false ∧ anyN (badL y.r y.j) 0 y.j.length = false ∧ anyN (badTL y.r y.t) 0 y.t.length = false ∧ anyN (badY y) 0 y.t.length = false := by
  unfold yErr at h
  split at h
  case isFalse q => exact absurd h q
  rename_i h0
  split at h
  · cases h
  rename_i h1
  split at h
  · cases h
  rename_i h2
  split at h
  · cases h
  rename_i h3
  split at h
  · cases h
  rename_i h4
  split at h
  · cases h
  rename_i h5
  split at h
  · cases h
  rename_i h6
  exact ⟨h0, by omega, by omega, by simpa using h2, by simpa using h3, by simpa using h4, by simpa using h5, by simpa using h6⟩
theorem Val.good {y : Yd} (v : Val y) : Good y.r := validate0 (Val.parts v.e).1
theorem Val.fld {y : Yd} (v : Val y) {t : Tr} (ht : t ∈ y.t) : fldT t = true := by
  obtain ⟨j, hj, rfl⟩ := List.getElem_of_mem ht
  have := anyN_off (Val.parts v.e).2.2.2.2.1 (Nat.zero_le j) hj
  unfold badT at this
  rw [List.getElem?_eq_getElem hj] at this
  simpa using this
theorem Val.emp {y : Yd} (v : Val y) : ∀ t ∈ y.t, t.s = [] → t.a = [] := fun t ht => fld_bounds (v.fld ht)
theorem Val.lies {y : Yd} (v : Val y) : ∀ t ∈ y.t, ∀ s ∈ wy t, lieS y.r s = true := fun t ht s hs => by
  obtain ⟨j, hj, rfl⟩ := List.getElem_of_mem ht
  have := anyN_off (Val.parts v.e).2.2.2.2.2.2.1 (Nat.zero_le j) hj
  unfold badTL at this
  rw [List.getElem?_eq_getElem hj] at this
  simp at this
  exact this s hs
theorem lieS_p {r : Rl} {s : So} (h : lieS r s = true) : 0 ≤ s.p ∧ s.p < 6 := by
  have := lie_lt (lieS_has h).2; omega
end Go.Proofs.YtiaeckidlmoohaaGreat
end
section
set_option linter.unusedVariables false
set_option linter.unusedSimpArgs false
set_option maxHeartbeats 8000000
set_option maxRecDepth 20000
namespace Go.Proofs.YtiaeckidlmoohaaGreat
open Go.Proofs.YtiaeckidlmoohaaGreat.PM
structure Li where
  nl : Nl
  xs : List Int
def encLi (x : Li) : List PV := [lst x.nl x.xs]
theorem encLi_inj (x y : Li) (h : encLi x = encLi y) : x = y := by
  obtain ⟨a, b⟩ := x
  obtain ⟨c, d⟩ := y
  simp only [encLi, List.cons.injEq, and_true] at h
  obtain ⟨h1, h2⟩ := lst_inj h
  subst h1 h2; rfl
noncomputable instance : Enc Li where
  sz := 1
  enc := encLi
  dec := decOf encLi
  cln x := x.nl != .bor
  pos := by decide
  len _ := rfl
  one _ := rfl
  pur _ := rfl
  hcln x := by simp [encLi]
  dec_enc := decOf_enc encLi_inj
  enc_dec _ _ := enc_decOf
instance : Flat Li := ⟨fun _ _ _ _ => rfl⟩
@[simp] theorem sz_li : Enc.sz Li = 1 := rfl
@[simp] theorem enc_li (x : Li) : Enc.enc x = [lst x.nl x.xs] := rfl
@[simp] theorem cln_li (x : Li) : Enc.cln x = (x.nl != .bor) := rfl
structure Ya (y : Yd) : Prop where
  n : y.n1 = .any ∧ y.n2 = .any ∧ y.n3 = .any ∧ y.r.n1 = .any ∧ y.r.n2 = .any
  t : y.t.length ≤ maxLen
  tr : ∀ t ∈ y.t, t.n1 = .any ∧ t.n2 = .any
theorem large_ok (y : Yd) (ht : y.t.length ≤ maxLen) {nl : Nl} (ls : List Li) (hl : ls.length ≤ maxLen) : ∃ b, R tc 19 [vYd y, lst nl ls] = some (.bool b) ∧ (b = false → (y.r.s.length ≤ 1100 ∧ y.g.length ≤ 1100 ∧ y.j.length ≤ 1100 ∧ y.t.length ≤ 1100 ∧ ∀ t ∈ y.t, t.s.length ≤ 1100 ∧ t.a.length ≤ 1100) ∧ ∀ l ∈ ls, l.xs.length ≤ 1100) := by
  have hm : maxLen = 9223372036854775807 := rfl
  obtain ⟨v, h1, b, rfl, h2⟩ := R_ex (T := tc) (f := 19) (F := pf19) (args := [vYd y, lst nl ls]) (Rq := fun v => ∃ b, v = .bool b ∧ (b = false → (y.r.s.length ≤ 1100 ∧ y.g.length ≤ 1100 ∧ y.j.length ≤ 1100 ∧ y.t.length ≤ 1100 ∧ ∀ t ∈ y.t, t.s.length ≤ 1100 ∧ t.a.length ≤ 1100) ∧ ∀ l ∈ ls, l.xs.length ≤ 1100)) (tc_nat _ rfl) rfl rfl (by
    simp (disch := first | omega | with_unfolding_all rfl) [pf19, env0_eq]
    refine G_loopK [1, 29, 30] (fun (i : Nat) e h => i ≤ y.t.length ∧ get e 31 = .int .i64 (i : Int) ∧ h = [] ∧ ∃ m : Int, get e 5 = .int .i64 m ∧ (y.r.s.length : Int) ≤ m ∧ (y.g.length : Int) ≤ m ∧ (y.j.length : Int) ≤ m ∧ (y.t.length : Int) ≤ m ∧ ∀ t ∈ y.t.take i, (t.s.length : Int) ≤ m ∧ (t.a.length : Int) ≤ m) (fun i => y.t.length - i) (a₀ := 0) ?_ ?_
    · refine ⟨by omega, by simp, rfl, _, rfl, ?_, ?_, ?_, ?_, fun t h => by simp at h⟩
      all_goals repeat' split
      all_goals omega
    rintro i e h hk ⟨hi, g31, rfl, m, g5, m1, m2, m3, m4, m5⟩
    simp at hk
    simp (disch := first | omega | with_unfolding_all rfl) [hk, g31]
    refine G_brd (fun d => ?_) (fun d => ?_)
    · have hin : i < y.t.length := by omega
      obtain ⟨x, hx⟩ : ∃ x, x = y.t[i] := ⟨_, rfl⟩
      have hsn : y.t.take (i + 1) = y.t.take i ++ [x] := by rw [List.take_add_one, List.getElem?_eq_getElem hin, hx]; rfl
      simp (disch := first | omega | with_unfolding_all rfl) [hk, g31, g5, d, ← hx]
      refine ⟨i + 1, by omega, by omega, by omega, ?_, ?_, ?_, ?_, ?_⟩
      · split <;> split <;> omega
      · split <;> split <;> omega
      · split <;> split <;> omega
      · split <;> split <;> omega
      · rw [hsn]
        intro t ht
        rw [List.mem_append, List.mem_singleton] at ht
        rcases ht with ht | rfl
        · have := m5 t ht
          constructor <;> split <;> split <;> omega
        · constructor <;> split <;> split <;> omega
    · have hi2 : i = y.t.length := by omega
      rw [hi2, List.take_length] at m5
      simp (disch := first | omega | with_unfolding_all rfl) [hk, g31, g5, d]
      refine G_loopK [44, 45] (fun (i : Nat) e h => i ≤ ls.length ∧ get e 46 = .int .i64 (i : Int) ∧ h = [] ∧ ∃ m2 : Int, get e 5 = .int .i64 m2 ∧ m ≤ m2 ∧ ∀ t ∈ ls.take i, (t.xs.length : Int) ≤ m2) (fun i => ls.length - i) (a₀ := 0) ⟨by omega, by simp, rfl, m, by simp, by omega, fun t h => by simp at h⟩ ?_
      rintro j e h hk2 ⟨hj, g46, rfl, m', g5', mm, m6⟩
      simp at hk2
      simp (disch := first | omega | with_unfolding_all rfl) [hk2, g46]
      refine G_brd (fun d => ?_) (fun d => ?_)
      · have hin : j < ls.length := by omega
        obtain ⟨x, hx⟩ : ∃ x, x = ls[j] := ⟨_, rfl⟩
        have hsn : ls.take (j + 1) = ls.take j ++ [x] := by rw [List.take_add_one, List.getElem?_eq_getElem hin, hx]; rfl
        simp (disch := first | omega | with_unfolding_all rfl) [hk2, g46, g5', d, ← hx]
        refine ⟨j + 1, by omega, by omega, by omega, ?_, ?_⟩
        · split <;> omega
        · rw [hsn]
          intro t ht
          rw [List.mem_append, List.mem_singleton] at ht
          rcases ht with ht | rfl
          · have := m6 t ht
            split <;> omega
          · split <;> omega
      · have hi2 : j = ls.length := by omega
        rw [hi2, List.take_length] at m6
        simp (disch := first | omega | with_unfolding_all rfl) [hk2, g46, g5', d]
        by_cases q : m' ≤ 1100
        · refine .inl ⟨q, ⟨by omega, by omega, by omega, by omega, fun t ht => ?_⟩, fun l hl => ?_⟩
          · have := m5 t ht; omega
          · have := m6 l hl; omega
        · exact .inr (by omega))
  exact ⟨b, h1, h2⟩
theorem Ya.k {y : Yd} (a : Ya y) (h : y.r.s.length ≤ 1100 ∧ y.g.length ≤ 1100 ∧ y.j.length ≤ 1100 ∧ y.t.length ≤ 1100 ∧ ∀ t ∈ y.t, t.s.length ≤ 1100 ∧ t.a.length ≤ 1100) : Yk y :=
  ⟨h.1, h.2.1, h.2.2.1, h.2.2.2.1, fun t ht => ⟨(h.2.2.2.2 t ht).1, (h.2.2.2.2 t ht).2, fun e => by rw [(a.tr t ht).1] at e; cases e⟩⟩
end Go.Proofs.YtiaeckidlmoohaaGreat
end
section
set_option linter.unusedVariables false
set_option linter.unusedSimpArgs false
namespace Go.Proofs.YtiaeckidlmoohaaGreat
open Go.Proofs.YtiaeckidlmoohaaGreat.PM
theorem shaped_sg {r : List PV} (h : Shaped [.int .i64, .int .i64, .int .i64, .int .i64] r) : ∃ a : Sg, r = Enc.enc a ∧ True := by
  simp only [Shaped] at h
  obtain ⟨_, _, rfl, h1, _, _, rfl, h2, _, _, rfl, h3, _, _, rfl, h4, rfl⟩ := h
  unfold ShapedC at h1 h2 h3 h4
  obtain ⟨a, rfl, _⟩ := h1
  obtain ⟨b, rfl, _⟩ := h2
  obtain ⟨c, rfl, _⟩ := h3
  obtain ⟨d, rfl, _⟩ := h4
  exact ⟨⟨a, b, c, d⟩, rfl, trivial⟩
theorem shaped_so {r : List PV} (h : Shaped [.int .i64, .int .i64, .int .i64] r) : ∃ a : So, r = Enc.enc a ∧ True := by
  simp only [Shaped] at h
  obtain ⟨_, _, rfl, h1, _, _, rfl, h2, _, _, rfl, h3, rfl⟩ := h
  unfold ShapedC at h1 h2 h3
  obtain ⟨a, rfl, _⟩ := h1
  obtain ⟨b, rfl, _⟩ := h2
  obtain ⟨c, rfl, _⟩ := h3
  exact ⟨⟨a, b, c⟩, rfl, trivial⟩
theorem shaped_jo {r : List PV} (h : Shaped [.int .i64, .int .i64, .int .i64, .int .i64, .int .i64, .int .i64] r) : ∃ a : Jo, r = Enc.enc a ∧ True := by
  simp only [Shaped] at h
  obtain ⟨_, _, rfl, h1, _, _, rfl, h2, _, _, rfl, h3, _, _, rfl, h4, _, _, rfl, h5, _, _, rfl, h6, rfl⟩ := h
  unfold ShapedC at h1 h2 h3 h4 h5 h6
  obtain ⟨a, rfl, _⟩ := h1
  obtain ⟨b, rfl, _⟩ := h2
  obtain ⟨c, rfl, _⟩ := h3
  obtain ⟨d, rfl, _⟩ := h4
  obtain ⟨e, rfl, _⟩ := h5
  obtain ⟨f, rfl, _⟩ := h6
  exact ⟨⟨⟨a, b, c⟩, ⟨d, e, f⟩⟩, rfl, trivial⟩
theorem shaped_tr {r : List PV} (h : Shaped [.int .i64, .int .i64, .int .i64, .lst 3 [.int .i64, .int .i64, .int .i64], .lst 3 [.int .i64, .int .i64, .int .i64]] r) : ∃ a : Tr, r = Enc.enc a ∧ (a.n1 = .any ∧ a.n2 = .any) := by
  simp only [Shaped] at h
  obtain ⟨_, _, rfl, h1, _, _, rfl, h2, _, _, rfl, h3, _, _, rfl, h4, _, _, rfl, h5, rfl⟩ := h
  unfold ShapedC at h1 h2 h3
  obtain ⟨a, rfl, _⟩ := h1
  obtain ⟨b, rfl, _⟩ := h2
  obtain ⟨c, rfl, _⟩ := h3
  obtain ⟨ss, rfl, _, _⟩ := shaped_lst (α := So) (fun r => shaped_so) rfl h4
  obtain ⟨aa, rfl, _, _⟩ := shaped_lst (α := So) (fun r => shaped_so) rfl h5
  exact ⟨⟨a, b, c, .any, ss, .any, aa⟩, rfl, rfl, rfl⟩
end Go.Proofs.YtiaeckidlmoohaaGreat
end
section
set_option linter.unusedVariables false
set_option linter.unusedSimpArgs false
set_option maxHeartbeats 8000000
set_option maxRecDepth 20000
namespace Go.Proofs.YtiaeckidlmoohaaGreat
open Go.Proofs.YtiaeckidlmoohaaGreat.PM
theorem same38_ok {n1 n2 : Nl} (xs : List So) (h : xs.length ≤ 100000) : R tc 38 [lst n1 xs, lst n2 xs] = some (.bool true) := by
  refine R_of_G (F := pf38) (tc_nat _ rfl) rfl rfl ?_
  simp (disch := first | omega | with_unfolding_all rfl) [pf38, env0_eq]
  refine G_scanC [0, 1] 5 (fun _ => false) xs.length 0 (by simp) (Nat.zero_le _) ?_
  rintro i e - hi hz hk g5
  simp at hk
  simp (disch := first | omega | with_unfolding_all rfl) [hk, g5]
  refine G_brd (fun d => ?_) (fun d => ?_)
  · have hin : i < xs.length := by omega
    obtain ⟨x, hx⟩ : ∃ x, x = xs[i] := ⟨_, rfl⟩
    simp (disch := first | omega | with_unfolding_all rfl) [hk, g5, d, ← hx]
    try omega
  · simp (disch := first | omega | with_unfolding_all rfl) [hk, g5, d]
end Go.Proofs.YtiaeckidlmoohaaGreat
end
section
set_option linter.unusedVariables false
set_option linter.unusedSimpArgs false
set_option maxHeartbeats 8000000
set_option maxRecDepth 20000
namespace Go.Proofs.YtiaeckidlmoohaaGreat
open Go.Proofs.YtiaeckidlmoohaaGreat.PM
noncomputable def askErr (y : Yd) (i : Int) : Int := if yErr y = 0 then (if i < 0 ∨ (y.t.length : Int) ≤ i then 2 else 0) else yErr y
theorem askT_ok (y : Yd) (k : Yk y) (i : Int) : R tc 75 [vYd y, .int .i64 i] = some (.int .i64 (askErr y i)) := by
  have hv := validateT_ok y k
  unfold askErr
  refine R_of_G (F := pf75) (tc_nat _ rfl) rfl rfl ?_
  by_cases h0 : yErr y = 0
  case neg => simp (disch := first | omega | with_unfolding_all rfl) [pf75, env0_eq, hv, h0]
  by_cases h1 : i < 0
  · simp (disch := first | omega | with_unfolding_all rfl) [pf75, env0_eq, hv, h0, h1]
  by_cases h2 : (y.t.length : Int) ≤ i
  · simp (disch := first | omega | with_unfolding_all rfl) [pf75, env0_eq, hv, h0, h1, h2]
  · simp (disch := first | omega | with_unfolding_all rfl) [pf75, env0_eq, hv, h0, h1, h2]
theorem refAskT_ok (y : Yd) (k : Yk y) (i : Int) : R tc 80 [vYd y, .int .i64 i] = some (.int .i64 (askErr y i)) := by
  have hv := refValidateT_ok y k
  unfold askErr
  refine R_of_G (F := pf80) (tc_nat _ rfl) rfl rfl ?_
  by_cases h0 : yErr y = 0
  case neg => simp (disch := first | omega | with_unfolding_all rfl) [pf80, env0_eq, hv, h0]
  by_cases h1 : i < 0
  · simp (disch := first | omega | with_unfolding_all rfl) [pf80, env0_eq, hv, h0, h1]
  by_cases h2 : (y.t.length : Int) ≤ i
  · simp (disch := first | omega | with_unfolding_all rfl) [pf80, env0_eq, hv, h0, h1, h2]
  · simp (disch := first | omega | with_unfolding_all rfl) [pf80, env0_eq, hv, h0, h1, h2]
theorem ask0 {y : Yd} {i : Int} (h : askErr y i = 0) : yErr y = 0 ∧ 0 ≤ i ∧ i < y.t.length := by
  unfold askErr at h
  split at h
  · rename_i q
    split at h
    · cases h
    · exact ⟨q, by omega, by omega⟩
  · rename_i q; exact absurd h q
end Go.Proofs.YtiaeckidlmoohaaGreat
end
