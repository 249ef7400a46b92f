/- Several texts in one: TrainSame, TrainCopy, TrainLeave. -/
import Derived.Test.YtiaeckidlmoohaaGreatTrainValA
section
set_option linter.unusedVariables false
set_option linter.unusedSimpArgs false
set_option maxHeartbeats 8000000
set_option maxRecDepth 20000
namespace Go.Proofs.YtiaeckidlmoohaaGreat
open Go.Proofs.YtiaeckidlmoohaaGreat.PM
instance : Flat Tr := ⟨fun _ _ _ _ => rfl⟩
theorem same30_ok {n1 n2 : Nl} (xs : List Int) (h : xs.length ≤ 100000) : R tc 30 [lst n1 xs, lst n2 xs] = some (.bool true) := by
  refine R_of_G (F := pf30) (tc_nat _ rfl) rfl rfl ?_
  simp (disch := first | omega | with_unfolding_all rfl) [pf30, env0_eq]
  refine G_scanC [0, 1] 5 (fun _ => false) xs.length 0 (by simp) (Nat.zero_le _) ?_
  rintro i e - hi hz hk g5
  simp at hk
  simp (disch := first | omega | with_unfolding_all rfl) [hk, g5]
  refine G_brd (fun d => ?_) (fun d => ?_)
  · have hin : i < xs.length := by omega
    obtain ⟨x, hx⟩ : ∃ x, x = xs[i] := ⟨_, rfl⟩
    simp (disch := first | omega | with_unfolding_all rfl) [hk, g5, d, ← hx]
    try omega
  · simp (disch := first | omega | with_unfolding_all rfl) [hk, g5, d]
theorem same103_ok {n1 n2 : Nl} (xs : List Bool) (h : xs.length ≤ 100000) : R tc 103 [lst n1 xs, lst n2 xs] = some (.bool true) := by
  refine R_of_G (F := pf103) (tc_nat _ rfl) rfl rfl ?_
  simp (disch := first | omega | with_unfolding_all rfl) [pf103, env0_eq]
  refine G_scanC [0, 1] 5 (fun _ => false) xs.length 0 (by simp) (Nat.zero_le _) ?_
  rintro i e - hi hz hk g5
  simp at hk
  simp (disch := first | omega | with_unfolding_all rfl) [hk, g5]
  refine G_brd (fun d => ?_) (fun d => ?_)
  · have hin : i < xs.length := by omega
    obtain ⟨x, hx⟩ : ∃ x, x = xs[i] := ⟨_, rfl⟩
    simp (disch := first | omega | with_unfolding_all rfl) [hk, g5, d, ← hx]
    try omega
  · simp (disch := first | omega | with_unfolding_all rfl) [hk, g5, d]
theorem same51_ok {n1 n2 : Nl} (xs : List Sg) (h : xs.length ≤ 100000) : R tc 51 [lst n1 xs, lst n2 xs] = some (.bool true) := by
  refine R_of_G (F := pf51) (tc_nat _ rfl) rfl rfl ?_
  simp (disch := first | omega | with_unfolding_all rfl) [pf51, env0_eq]
  refine G_scanC [0, 1] 5 (fun _ => false) xs.length 0 (by simp) (Nat.zero_le _) ?_
  rintro i e - hi hz hk g5
  simp at hk
  simp (disch := first | omega | with_unfolding_all rfl) [hk, g5]
  refine G_brd (fun d => ?_) (fun d => ?_)
  · have hin : i < xs.length := by omega
    obtain ⟨x, hx⟩ : ∃ x, x = xs[i] := ⟨_, rfl⟩
    simp (disch := first | omega | with_unfolding_all rfl) [hk, g5, d, ← hx]
    try omega
  · simp (disch := first | omega | with_unfolding_all rfl) [hk, g5, d]
theorem same52_ok {n1 n2 : Nl} (xs : List Jo) (h : xs.length ≤ 100000) : R tc 52 [lst n1 xs, lst n2 xs] = some (.bool true) := by
  refine R_of_G (F := pf52) (tc_nat _ rfl) rfl rfl ?_
  simp (disch := first | omega | with_unfolding_all rfl) [pf52, env0_eq]
  refine G_scanC [0, 1] 5 (fun _ => false) xs.length 0 (by simp) (Nat.zero_le _) ?_
  rintro i e - hi hz hk g5
  simp at hk
  simp (disch := first | omega | with_unfolding_all rfl) [hk, g5]
  refine G_brd (fun d => ?_) (fun d => ?_)
  · have hin : i < xs.length := by omega
    obtain ⟨x, hx⟩ : ∃ x, x = xs[i] := ⟨_, rfl⟩
    simp (disch := first | omega | with_unfolding_all rfl) [hk, g5, d, ← hx]
    try omega
  · simp (disch := first | omega | with_unfolding_all rfl) [hk, g5, d]
structure SameT (a b : Tr) : Prop where
  n : a.n = b.n
  v : a.v = b.v
  d : a.d = b.d
  s : a.s = b.s
  a : a.a = b.a
theorem same83_ok {a b : Tr} (h : SameT a b) (hs : a.s.length ≤ 100000) (ha : a.a.length ≤ 100000) : R tc 83 [vTr a, vTr b] = some (.bool true) := by
  obtain ⟨n, v, d, n1, s, n2, aa⟩ := a
  obtain ⟨n', v', d', n1', s', n2', aa'⟩ := b
  obtain ⟨h1, h2, h3, h4, h5⟩ := h
  dsimp only at *
  subst h1 h2 h3 h4 h5
  have e1 := same38_ok (n1 := n1) (n2 := n1') s (by omega)
  have e2 := same38_ok (n1 := n2) (n2 := n2') aa (by omega)
  refine R_of_G (F := pf83) (tc_nat _ rfl) rfl rfl ?_
  simp (disch := first | omega | with_unfolding_all rfl) [pf83, env0_eq, e1, e2]
structure SameR (a b : Rl) : Prop where
  w : a.w = b.w
  h : a.h = b.h
  s : a.s = b.s
  d : a.d = b.d
theorem same50_ok {a b : Rl} (h : SameR a b) (hs : a.s.length ≤ 100000) (hd : a.d.length ≤ 100000) : R tc 50 [vR a, vR b] = some (.bool true) := by
  obtain ⟨w, h', n1, s, n2, d⟩ := a
  obtain ⟨w', h'', n1', s', n2', d'⟩ := b
  obtain ⟨h1, h2, h3, h4⟩ := h
  dsimp only at *
  subst h1 h2 h3 h4
  have e1 := same30_ok (n1 := n1) (n2 := n1') s (by omega)
  have e2 := same103_ok (n1 := n2) (n2 := n2') d (by omega)
  refine R_of_G (F := pf50) (tc_nat _ rfl) rfl rfl ?_
  simp (disch := first | omega | with_unfolding_all rfl) [pf50, env0_eq, e1, e2]
structure SameY (a b : Yd) : Prop where
  r : SameR a.r b.r
  g : a.g = b.g
  j : a.j = b.j
  l : a.t.length = b.t.length
  t : ∀ i (h : i < a.t.length) (h' : i < b.t.length), SameT a.t[i] b.t[i]
theorem same27_ok {a b : Yd} (h : SameY a b) (hs : a.r.s.length ≤ 100000) (hd : a.r.d.length ≤ 100000) (hg : a.g.length ≤ 100000) (hj : a.j.length ≤ 100000) (ht : a.t.length ≤ 100000) (htr : ∀ t ∈ a.t, t.s.length ≤ 100000 ∧ t.a.length ≤ 100000) : R tc 27 [vYd a, vYd b] = some (.bool true) := by
  have e1 := same50_ok h.r hs hd
  obtain ⟨r, n1, gs, n2, js, n3, ts⟩ := a
  obtain ⟨r', n1', gs', n2', js', n3', ts'⟩ := b
  obtain ⟨-, h2, h3, h4, h5⟩ := h
  dsimp only at *
  subst h2 h3
  have e2 := same51_ok (n1 := n1) (n2 := n1') gs (by omega)
  have e3 := same52_ok (n1 := n2) (n2 := n2') js (by omega)
  refine R_of_G (F := pf27) (tc_nat _ rfl) rfl rfl ?_
  simp (disch := first | omega | with_unfolding_all rfl) [pf27, env0_eq, e1, e2, e3, h4]
  refine G_scanC [2, 3, 39] 40 (fun _ => false) ts.length 0 (by simp) (Nat.zero_le _) ?_
  rintro i e - hi hz hk g40
  simp at hk
  simp (disch := first | omega | with_unfolding_all rfl) [hk, g40, h4]
  refine G_brd (fun d => ?_) (fun d => ?_)
  · have hin : i < ts.length := by omega
    have hin' : i < ts'.length := by omega
    have hs := h5 i hin hin'
    have hb := htr ts[i] (List.getElem_mem hin)
    have e4 := same83_ok hs hb.1 hb.2
    simp only [vTr] at e4
    simp (disch := first | omega | with_unfolding_all rfl) [hk, g40, d, e4, hin, hin', h4]
    try omega
  · have d' : ¬ i < ts.length := by omega
    simp (disch := first | omega | with_unfolding_all rfl) [hk, g40, d, h4]
theorem clone119_ok {nl : Nl} (xs : List Int) (hn : nl = .nil → xs = []) (hb : xs.length ≤ 100000) : R tc 119 [lst nl xs] = some (lst .any xs) := by
  by_cases h : xs = []
  · subst h
    have : tc.nat 119 [lst nl ([] : List Int)] = some (lst .any ([] : List Int)) := rfl
    unfold R callP
    rw [this]
  · refine R_of_G (F := pf119) (tc_natS (by decide) h) rfl rfl ?_
    have hE := eqNil_lst (nl := nl) (fun e => h (hn e)) h
    have hr0 : ∀ z, rep 0 z = [] := fun _ => by simp [rep]
    have hA := evApp_ex_lst (nl := nl) (H := []) (e := 3) (s := 1) (bytes := 8) rfl h (by omega)
    simp only [sz_int] at hA
    simp (disch := first | omega | with_unfolding_all rfl) [pf119, env0_eq, h, -evEqNil, hE, hr0, hA]
theorem clone120_ok {nl : Nl} (xs : List Bool) (hn : nl = .nil → xs = []) (hb : xs.length ≤ 100000) : R tc 120 [lst nl xs] = some (lst .any xs) := by
  by_cases h : xs = []
  · subst h
    have : tc.nat 120 [lst nl ([] : List Bool)] = some (lst .any ([] : List Bool)) := rfl
    unfold R callP
    rw [this]
  · refine R_of_G (F := pf120) (tc_natS (by decide) h) rfl rfl ?_
    have hE := eqNil_lst (nl := nl) (fun e => h (hn e)) h
    have hr0 : ∀ z, rep 0 z = [] := fun _ => by simp [rep]
    have hA := evApp_ex_lst (nl := nl) (H := []) (e := 4) (s := 1) (bytes := 1) rfl h (by omega)
    simp only [sz_bool] at hA
    simp (disch := first | omega | with_unfolding_all rfl) [pf120, env0_eq, h, -evEqNil, hE, hr0, hA]
theorem clone121_ok {nl : Nl} (xs : List Sg) (hn : nl = .nil → xs = []) (hb : xs.length ≤ 100000) : R tc 121 [lst nl xs] = some (lst .any xs) := by
  by_cases h : xs = []
  · subst h
    have : tc.nat 121 [lst nl ([] : List Sg)] = some (lst .any ([] : List Sg)) := rfl
    unfold R callP
    rw [this]
  · refine R_of_G (F := pf121) (tc_natS (by decide) h) rfl rfl ?_
    have hE := eqNil_lst (nl := nl) (fun e => h (hn e)) h
    have hr0 : ∀ z, rep 0 z = [] := fun _ => by simp [rep]
    have hA := evApp_ex_lst (nl := nl) (H := []) (e := 75) (s := 4) (bytes := 32) rfl h (by omega)
    simp only [sz_sg] at hA
    simp (disch := first | omega | with_unfolding_all rfl) [pf121, env0_eq, h, -evEqNil, hE, hr0, hA]
theorem clone122_ok {nl : Nl} (xs : List Jo) (hn : nl = .nil → xs = []) (hb : xs.length ≤ 100000) : R tc 122 [lst nl xs] = some (lst .any xs) := by
  by_cases h : xs = []
  · subst h
    have : tc.nat 122 [lst nl ([] : List Jo)] = some (lst .any ([] : List Jo)) := rfl
    unfold R callP
    rw [this]
  · refine R_of_G (F := pf122) (tc_natS (by decide) h) rfl rfl ?_
    have hE := eqNil_lst (nl := nl) (fun e => h (hn e)) h
    have hr0 : ∀ z, rep 0 z = [] := fun _ => by simp [rep]
    have hA := evApp_ex_lst (nl := nl) (H := []) (e := 78) (s := 6) (bytes := 48) rfl h (by omega)
    simp only [sz_jo] at hA
    simp (disch := first | omega | with_unfolding_all rfl) [pf122, env0_eq, h, -evEqNil, hE, hr0, hA]
theorem clone123_ok {nl : Nl} {xs : List Tr} {H : Hp} (hn : nl ≠ .nil) (h : xs ≠ []) (hb : xs.length ≤ 100000) : RO tc 123 [lst nl xs] H = some (mls Tr H.length 1 xs.length, H ++ [bk 68 1 xs]) := by
  refine RO_of_G (F := pf123) (tc_natOS h) rfl rfl ?_
  have hE := eqNil_lst hn h
  have hr0 : ∀ z, rep 0 z = [] := fun _ => by simp [rep]
  have hA := evApp_ex_lst (nl := nl) (H := H) (e := 68) (s := 5) (bytes := 72) rfl h (by omega)
  simp only [sz_tr] at hA
  simp (disch := first | omega | with_unfolding_all rfl) [pf123, env0_eq, h, -evEqNil, hE, hr0, hA]
end Go.Proofs.YtiaeckidlmoohaaGreat
end
section
set_option linter.unusedVariables false
set_option linter.unusedSimpArgs false
set_option maxHeartbeats 8000000
set_option maxRecDepth 20000
namespace Go.Proofs.YtiaeckidlmoohaaGreat
open Go.Proofs.YtiaeckidlmoohaaGreat.PM
theorem hp_at (H L : Hp) (k : Nat) : (H ++ L : Hp)[List.length H + k]? = L[k]? := by
  rw [List.getElem?_append_right (by omega)]; congr 1; omega
theorem hp_at0 (H L : Hp) : (H ++ L : Hp)[List.length H]? = L[0]? := by
  rw [List.getElem?_append_right (by omega)]; congr 1; omega
theorem hp_sk (H L : Hp) (k : Nat) (x : Blk) : (H ++ L : Hp).set (List.length H + k) x = H ++ L.set k x := by
  rw [List.set_append_right _ _ (by omega)]; congr 2; omega
theorem hp_s0 (H L : Hp) (x : Blk) : (H ++ L : Hp).set (List.length H) x = H ++ L.set 0 x := by
  rw [List.set_append_right _ _ (by omega)]; congr 2; omega
theorem hp_tk (H L : Hp) (k : Nat) : (H ++ L : Hp).take (List.length H + k) = H ++ L.take k := by
  rw [List.take_append, List.take_of_length_le (by omega)]; congr 2; omega
theorem dec_tr (a b c : Int) (n1 n2 : Nl) (s x : List So) : (Enc.dec [PV.int .i64 a, .int .i64 b, .int .i64 c, lst n1 s, lst n2 x] : Option Tr) = some ⟨a, b, c, n1, s, n2, x⟩ := Enc.dec_enc (⟨a, b, c, n1, s, n2, x⟩ : Tr)
def tcl (t : Tr) : Tr := ⟨t.n, t.v, t.d, .any, t.s, .any, t.a⟩
abbrev YB (y : Yd) (x : PV) : Blk := ⟨30, 0, [.int .i64 y.r.w, .int .i64 y.r.h, lst .any y.r.s, lst .any y.r.d, lst .any y.g, lst .any y.j, x], none⟩
structure Yn (y : Yd) : Prop where
  s : y.r.n1 = .nil → y.r.s = []
  d : y.r.n2 = .nil → y.r.d = []
  g : y.n1 = .nil → y.g = []
  j : y.n2 = .nil → y.j = []
  t : y.n3 ≠ .nil
  a : ∀ t ∈ y.t, (t.n1 = .nil → t.s = []) ∧ (t.n2 = .nil → t.a = [])
theorem cloneY_ok (y : Yd) (k : Yk y) (hn : Yn y) (hd : y.r.d.length ≤ 100000) (h0 : y.t ≠ []) (H : Hp)
    (hH : ∀ n, List.length H ≤ n → (H.all fun B => B.nr n) = true) : ∃ B1 B2 B3, RO tc 76 [vYd y] H = some (.agg [.int .i64 y.r.w, .int .i64 y.r.h, lst .any y.r.s, lst .any y.r.d, lst .any y.g, lst .any y.j, mls Tr (H.length + 3) 1 y.t.length], H ++ [B1, B2, B3, bk 68 1 (y.t.map tcl)]) := by
  refine ⟨YB y (mls Tr (H.length + 3) 1 y.t.length), YB y (mls Tr (H.length + 3) 1 y.t.length), ⟨25, 0, [.int .i64 y.r.w, .int .i64 y.r.h, lst y.r.n1 y.r.s, lst y.r.n2 y.r.d], none⟩, ?_⟩
  have e1 := clone119_ok (nl := y.r.n1) y.r.s hn.s (by have := k.s; omega)
  have e2 := clone120_ok (nl := y.r.n2) y.r.d hn.d hd
  have e3 := clone121_ok (nl := y.n1) y.g hn.g (by have := k.g; omega)
  have e4 := clone122_ok (nl := y.n2) y.j hn.j (by have := k.j; omega)
  have e5 := fun H : Hp => clone123_ok (nl := y.n3) (xs := y.t) (H := H) hn.t h0 (by have := k.t; omega)
  refine RO_of_G (F := pf76) (tc_natO _ _ rfl) rfl rfl ?_
  simp (disch := first | omega | with_unfolding_all rfl) [pf76, env0_eq, hp_at, hp_at0, hp_sk, hp_s0, hp_tk, e1, e2, e3, e4, e5]
  refine G_loopK [1, 2, 31, 32] (fun (i : Nat) e h => i ≤ y.t.length ∧ get e 33 = .int .i64 (i : Int) ∧ h = H ++ [YB y (mls Tr (H.length + 3) 1 y.t.length), ⟨30, 0, [.int .i64 0, .int .i64 0, .list .nil 1 [], .list .nil 1 [], .list .nil 4 [], .list .nil 6 [], .list .nil 5 []], none⟩, ⟨25, 0, [.int .i64 y.r.w, .int .i64 y.r.h, lst y.r.n1 y.r.s, lst y.r.n2 y.r.d], none⟩, bk 68 1 ((y.t.take i).map tcl ++ y.t.drop i)]) (fun i => y.t.length - i) (a₀ := 0) ⟨by omega, by simp, by simp⟩ ?_
  rintro i e h hk ⟨hi, g33, rfl⟩
  have hyt := k.t
  simp at hk
  obtain ⟨us, hus⟩ : ∃ us, us = (y.t.take i).map tcl ++ y.t.drop i := ⟨_, rfl⟩
  have hul : us.length = y.t.length := by rw [hus]; simp; omega
  rw [← hus]
  simp (disch := first | omega | with_unfolding_all rfl) [hk, g33]
  refine G_brd (fun d => ?_) (fun d => ?_)
  · have hin : i < y.t.length := by omega
    obtain ⟨x, hx⟩ : ∃ x, x = y.t[i] := ⟨_, rfl⟩
    have hxm : x ∈ y.t := by rw [hx]; exact List.getElem_mem hin
    have hiu : i < us.length := by omega
    have hux : us[i] = x := by
      have : us[i]? = some x := by
        rw [hus, List.getElem?_append_right (by simp; omega)]
        have hz : i - ((y.t.take i).map tcl).length = 0 := by simp; omega
        rw [hz, List.getElem?_drop, Nat.add_zero, List.getElem?_eq_getElem hin, ← hx]
      rw [List.getElem?_eq_getElem hiu] at this
      exact Option.some.inj this
    have hset : us.set i (tcl x) = (y.t.take (i + 1)).map tcl ++ y.t.drop (i + 1) := by
      rw [hus, List.set_append_right _ _ (by simp; omega)]
      have hz : i - ((y.t.take i).map tcl).length = 0 := by simp; omega
      rw [hz, List.drop_eq_getElem_cons hin, List.set_cons_zero, List.take_add_one, List.getElem?_eq_getElem hin, ← hx]
      simp
    have hc1 := cloneP_ok (nl := x.n1) x.s (hn.a x hxm).1 (by have := (k.tr x hxm).1; omega)
    have hc2 := cloneP_ok (nl := x.n2) x.a (hn.a x hxm).2 (by have := (k.tr x hxm).2.1; omega)
    have hsl : ∀ z : Tr, i < (us.set i z).length := fun z => by simp; omega
    simp (disch := first | omega | exact hsl _ | with_unfolding_all rfl) [hk, g33, d, hp_at, hp_at0, hp_sk, hp_s0, hp_tk, hul, hux, hc1, hc2, dec_tr]
    refine G_reg_chk ?_ ?_
    · refine all_cons_ck (ckOne_of rfl ?_) (all_cons_ck (ckOne_of rfl ?_) all_nil_ck)
      all_goals simp (disch := first | omega | exact hsl _ | with_unfolding_all rfl) [hk, g33, d, hp_at, hp_at0, hp_sk, hp_s0, hp_tk, hul, hux, hc1, hc2, dec_tr]
    simp (disch := first | omega | exact hsl _ | with_unfolding_all rfl) [hk, g33, d, hp_at, hp_at0, hp_sk, hp_s0, hp_tk, hul, hux, hc1, hc2, dec_tr]
    refine ⟨fun B hB => List.all_eq_true.1 (hH _ (by omega)) B hB, i + 1, by omega, by omega, by omega, ?_⟩
    show cl (us.set i (tcl x)) = _
    rw [hset, List.map_take]
  · have hi2 : us = y.t.map tcl := by rw [hus, List.take_of_length_le (by omega), List.drop_eq_nil_iff.2 (by omega), List.append_nil]
    simp (disch := first | omega | with_unfolding_all rfl) [hk, g33, d, hp_at, hp_at0, hp_sk, hp_s0, hp_tk, hi2]
    exact fun B hB => List.all_eq_true.1 (hH _ (by omega)) B hB
def rtcl (t : Tr) : Tr := ⟨t.n, t.v, t.d, nlA t.s, t.s, nlA t.a, t.a⟩
def zT : Tr := ⟨0, 0, 0, .nil, [], .nil, []⟩
theorem copied_ok (y : Yd) (k : Yk y) (hd : y.r.d.length ≤ 100000) (h0 : y.t ≠ []) (H : Hp)
    (hH : ∀ n, List.length H ≤ n → (H.all fun B => B.nr n) = true) : ∃ B1 B2, RO tc 81 [vYd y] H = some (.agg [.int .i64 y.r.w, .int .i64 y.r.h, lst (nlA y.r.s) y.r.s, lst (nlA y.r.d) y.r.d, lst (nlA y.g) y.g, lst (nlA y.j) y.j, mls Tr (H.length + 2) 0 y.t.length], H ++ [B1, B2, bk 68 0 (y.t.map rtcl)]) := by
  refine ⟨⟨30, 0, [.int .i64 y.r.w, .int .i64 y.r.h, lst (nlA y.r.s) y.r.s, lst (nlA y.r.d) y.r.d, lst (nlA y.g) y.g, lst (nlA y.j) y.j, mls Tr (H.length + 2) 0 y.t.length], none⟩, ⟨30, 0, [.int .i64 y.r.w, .int .i64 y.r.h, lst (nlA y.r.s) y.r.s, lst (nlA y.r.d) y.r.d, lst (nlA y.g) y.g, lst (nlA y.j) y.j, mls Tr (H.length + 2) 0 y.t.length], none⟩, ?_⟩
  have k1 := k.s
  have k2 := k.g
  have k3 := k.j
  have k4 := k.t
  have hmk : ∀ (H : Hp), evMks 68 5 72 [.int .i64 0, .int .i64 0, .int .i64 0, .list .nil 3 [], .list .nil 3 []] (.int .i64 y.t.length) (.int .i64 y.t.length) H = some (mls Tr H.length 0 y.t.length, H ++ [bk 68 0 (List.replicate y.t.length zT)]) := fun H => by
    have := evMks_eq (H := H) (e := 68) (s := 5) (bytes := 72) (z := [.int .i64 0, .int .i64 0, .int .i64 0, .list .nil 3 [], .list .nil 3 []]) (k := .i64) (k' := .i64) (l := y.t.length) (c := y.t.length) (x := zT) rfl rfl (by omega) (by omega) (by omega)
    simpa using this
  refine RO_of_G (F := pf81) (tc_natO _ _ rfl) rfl rfl ?_
  simp (disch := first | omega | with_unfolding_all rfl) [pf81, env0_eq, hp_at, hp_at0, hp_sk, hp_s0, hp_tk, hH, hmk]
  refine G_loopK [1, 2, 3, 31, 32] (fun (i : Nat) e h => i ≤ y.t.length ∧ get e 33 = .int .i64 (i : Int) ∧ h = H ++ [⟨30, 0, [.int .i64 y.r.w, .int .i64 y.r.h, lst (nlA y.r.s) y.r.s, lst (nlA y.r.d) y.r.d, lst (nlA y.g) y.g, lst (nlA y.j) y.j, lst y.n3 y.t], none⟩, ⟨30, 0, [.int .i64 0, .int .i64 0, .list .nil 1 [], .list .nil 1 [], .list .nil 4 [], .list .nil 6 [], .list .nil 5 []], none⟩, bk 68 0 ((y.t.take i).map rtcl ++ List.replicate (y.t.length - i) zT)]) (fun i => y.t.length - i) (a₀ := 0) ⟨by omega, by simp, by simp⟩ ?_
  rintro i e h hk ⟨hi, g33, rfl⟩
  simp at hk
  obtain ⟨us, hus⟩ : ∃ us, us = (y.t.take i).map rtcl ++ List.replicate (y.t.length - i) zT := ⟨_, rfl⟩
  have hul : us.length = y.t.length := by rw [hus]; simp; omega
  rw [← hus]
  simp (disch := first | omega | with_unfolding_all rfl) [hk, g33]
  refine G_brd (fun d => ?_) (fun d => ?_)
  · have hin : i < y.t.length := by omega
    obtain ⟨x, hx⟩ : ∃ x, x = y.t[i] := ⟨_, rfl⟩
    have hxm : x ∈ y.t := by rw [hx]; exact List.getElem_mem hin
    have hiu : i < us.length := by omega
    have hset : us.set i (rtcl x) = (y.t.take (i + 1)).map rtcl ++ List.replicate (y.t.length - (i + 1)) zT := by
      rw [hus, List.set_append_right _ _ (by simp; omega)]
      have hz : i - ((y.t.take i).map rtcl).length = 0 := by simp; omega
      rw [hz, show y.t.length - i = (y.t.length - (i + 1)) + 1 by omega, List.replicate_succ, List.set_cons_zero, List.take_add_one, List.getElem?_eq_getElem hin, ← hx]
      simp
    have hb1 := (k.tr x hxm).1
    have hb2 := (k.tr x hxm).2.1
    have hca : ∀ l : List So, l.all Enc.cln = true := fun l => by rw [List.all_eq_true]; exact fun _ _ => rfl
    simp (disch := first | omega | with_unfolding_all rfl) [hk, g33, d, hp_at, hp_at0, hp_sk, hp_s0, hp_tk, hul, ← hx, dec_tr, hH, hca]
    refine ⟨i + 1, by omega, by omega, by omega, ?_⟩
    show cl (us.set i (rtcl x)) = _
    rw [hset, List.map_take]
  · have hi2 : us = y.t.map rtcl := by rw [hus, List.take_of_length_le (by omega), show y.t.length - i = 0 by omega]; simp
    simp (disch := first | omega | with_unfolding_all rfl) [hk, g33, d, hp_at, hp_at0, hp_sk, hp_s0, hp_tk, hi2]
    exact fun B hB => List.all_eq_true.1 (hH _ (by omega)) B hB
end Go.Proofs.YtiaeckidlmoohaaGreat
end
section
set_option linter.unusedVariables false
set_option linter.unusedSimpArgs false
set_option maxHeartbeats 8000000
set_option maxRecDepth 20000
namespace Go.Proofs.YtiaeckidlmoohaaGreat
open Go.Proofs.YtiaeckidlmoohaaGreat.PM
abbrev z7 : PV := .agg [.int .i64 0, .int .i64 0, .list .nil 1 [], .list .nil 1 [], .list .nil 4 [], .list .nil 6 [], .list .nil 5 []]
def dep (t : Tr) : Tr := ⟨t.n, 0, 0, .nil, [], .nil, []⟩
def cpY (y : Yd) (ts : List Tr) : Yd := ⟨⟨y.r.w, y.r.h, .any, y.r.s, .any, y.r.d⟩, .any, y.g, .any, y.j, .any, ts⟩
def rcY (y : Yd) (ts : List Tr) : Yd := ⟨⟨y.r.w, y.r.h, nlA y.r.s, y.r.s, nlA y.r.d, y.r.d⟩, nlA y.g, y.g, nlA y.j, y.j, .any, ts⟩
theorem tcl_cln (ts : List Tr) : (ts.map tcl).all Enc.cln = true := by
  rw [List.all_eq_true]
  intro t ht
  obtain ⟨u, _, rfl⟩ := List.mem_map.1 ht
  rfl
theorem all_set {ts : List Tr} (h : ts.all Enc.cln = true) (i : Nat) {x : Tr} (hx : (Enc.cln x : Bool) = true) : (ts.set i x).all Enc.cln = true := by
  rw [List.all_eq_true] at h ⊢
  intro t ht
  rcases List.mem_or_eq_of_mem_set ht with ht | rfl
  · exact h t ht
  · exact hx
theorem Ya.yn {y : Yd} (a : Ya y) : Yn y := by
  obtain ⟨⟨n1, n2, n3, n4, n5⟩, _, htr⟩ := a
  refine ⟨fun e => ?_, fun e => ?_, fun e => ?_, fun e => ?_, ?_, fun t ht => ⟨fun e => ?_, fun e => ?_⟩⟩
  · rw [n4] at e; cases e
  · rw [n5] at e; cases e
  · rw [n1] at e; cases e
  · rw [n2] at e; cases e
  · rw [n3]; decide
  · rw [(htr t ht).1] at e; cases e
  · rw [(htr t ht).2] at e; cases e
theorem Val.d {y : Yd} (v : Val y) : y.r.d.length ≤ 1024 := by
  have g := v.good
  have := g.ld
  have := g.mul
  omega
noncomputable def leaveV (y : Yd) (i : Int) : PV := if askErr y i = 0 then .tup [vYd (cpY y ((y.t.map tcl).set i.toNat (dep (y.t.getD i.toNat ⟨0, 0, 0, .nil, [], .nil, []⟩)))), .int .i64 0] else .tup [z7, .int .i64 (askErr y i)]
theorem rtcl_cln (ts : List Tr) : (ts.map rtcl).all Enc.cln = true := by
  rw [List.all_eq_true]
  intro t ht
  obtain ⟨u, _, rfl⟩ := List.mem_map.1 ht
  rw [cln_tr]
  unfold rtcl
  cases u.s <;> cases u.a <;> rfl
noncomputable def leaveR (y : Yd) (i : Int) : PV := if askErr y i = 0 then .tup [vYd (rcY y ((y.t.map rtcl).set i.toNat (dep (y.t.getD i.toNat ⟨0, 0, 0, .nil, [], .nil, []⟩)))), .int .i64 0] else .tup [z7, .int .i64 (askErr y i)]
theorem sameR_of (y : Yd) (a b : List Tr) (hl : a.length = b.length) (h : ∀ i (h : i < a.length) (h' : i < b.length), SameT a[i] b[i]) : SameY (cpY y a) (rcY y b) := ⟨⟨rfl, rfl, rfl, rfl⟩, rfl, rfl, hl, h⟩
theorem same_set {ts : List Tr} {i : Nat} {x x' : Tr} (hx : SameT x x') : ∀ j (h : j < ((ts.map tcl).set i x).length) (h' : j < ((ts.map rtcl).set i x').length), SameT ((ts.map tcl).set i x)[j] ((ts.map rtcl).set i x')[j] := fun j h h' => by
  rw [List.getElem_set, List.getElem_set]
  split
  · exact hx
  · rw [List.getElem_map, List.getElem_map]; exact ⟨rfl, rfl, rfl, rfl, rfl⟩
end Go.Proofs.YtiaeckidlmoohaaGreat
end
