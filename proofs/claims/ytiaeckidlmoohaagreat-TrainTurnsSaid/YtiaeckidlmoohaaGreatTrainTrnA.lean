/- Several texts in one: TrainTurn, TrainTurn2, TrainTurn3, TrainTurn4. -/
import Derived.Test.YtiaeckidlmoohaaGreatTrainValA
import Derived.Test.YtiaeckidlmoohaaGreatTrainCpA
section
set_option linter.unusedVariables false
set_option linter.unusedSimpArgs false
set_option maxHeartbeats 8000000
set_option maxRecDepth 20000
namespace Go.Proofs.YtiaeckidlmoohaaGreat
open Go.Proofs.YtiaeckidlmoohaaGreat.PM

/-- The other end of a piece. -/
def rv (s : So) : So := ⟨s.t, s.p, if s.o = sa s.p then sb s.p else sa s.p⟩
theorem lieS_o {r : Rl} {s : So} (h : lieS r s = true) : s.o = sa s.p ∨ s.o = sb s.p := by
  unfold lieS at h
  rw [Bool.and_eq_true, Bool.or_eq_true, decide_eq_true_eq, decide_eq_true_eq] at h
  exact h.2
theorem rv_lies {r : Rl} {s : So} (h : lieS r s = true) : lieS r (rv s) = true := by
  have hp := lieS_p h
  have ho := lieS_o h
  unfold lieS at h ⊢
  rw [Bool.and_eq_true] at h ⊢
  refine ⟨h.1, ?_⟩
  show (decide ((if s.o = sa s.p then sb s.p else sa s.p) = sa s.p) || decide ((if s.o = sa s.p then sb s.p else sa s.p) = sb s.p)) = true
  split <;> simp
theorem rv_rv {r : Rl} {s : So} (h : lieS r s = true) : rv (rv s) = s := by
  have hp := lieS_p h
  have hr := sab_rg hp
  obtain ⟨t, p, o⟩ := s
  dsimp only [rv] at *
  rcases lieS_o h with e | e
  · dsimp only at e
    subst e
    rw [if_pos rfl, if_neg (fun q => hr.2.2.2.2 q.symm)]
  · dsimp only at e
    subst e
    have e1 : (if sb p = sa p then sb p else sa p) = sa p := if_neg fun q => hr.2.2.2.2 q.symm
    rw [e1, if_pos rfl]
/-- A train, turned round. -/
def trn (t : Tr) : Tr := ⟨t.n, 0, 0, .any, (t.s.map rv).reverse, .nil, []⟩
theorem wy_trn (t : Tr) : wy (trn t) = t.s.map rv := by simp [wy, trn]
theorem yErr_zero {y : Yd} (h1 : valErr y.r y.g = 0) (h2 : y.j.length ≤ 80) (h3 : y.t.length ≤ 60) (hJ : anyN (badJ y.j) 0 y.j.length = false) (hT : ∀ t ∈ y.t, fldT t = true) (hL : anyN (badL y.r y.j) 0 y.j.length = false)
    (hl : ∀ t ∈ y.t, ∀ s ∈ wy t, lieS y.r s = true) (hw : ∀ t ∈ y.t, wayB y (wy t) = true) : yErr y = 0 := by
  unfold yErr
  rw [if_pos h1, if_neg (by omega), if_neg (by rw [hJ]; decide), if_neg, if_neg (by rw [hL]; decide), if_neg, if_neg]
  · rw [anyN_f fun i _ hi => ?_]; decide
    unfold badY
    rw [List.getElem?_eq_getElem hi]
    simp [hw _ (List.getElem_mem hi)]
  · rw [anyN_f fun i _ hi => ?_]; decide
    unfold badTL
    rw [List.getElem?_eq_getElem hi]
    simp
    exact hl _ (List.getElem_mem hi)
  · rw [anyN_f fun i _ hi => ?_]; decide
    unfold badT
    rw [List.getElem?_eq_getElem hi]
    simp [hT _ (List.getElem_mem hi)]
theorem Val.way {y : Yd} (v : Val y) {t : Tr} (ht : t ∈ y.t) : wayB y (wy t) = true := by
  obtain ⟨j, hj, rfl⟩ := List.getElem_of_mem ht
  have := anyN_off (Val.parts v.e).2.2.2.2.2.2.2 (Nat.zero_le j) hj
  unfold badY at this
  rw [List.getElem?_eq_getElem hj] at this
  simpa using this
/-- The same rails in all that counts. -/
structure EqR (a b : Yd) : Prop where
  w : a.r.w = b.r.w
  h : a.r.h = b.r.h
  s : a.r.s = b.r.s
  d : a.r.d = b.r.d
  g : a.g = b.g
  j : a.j = b.j
theorem EqR.val {a b : Yd} (e : EqR a b) : valErr a.r a.g = valErr b.r b.g := by
  obtain ⟨⟨w, h, n1, s, n2, d⟩, m1, g, m2, j, m3, t⟩ := a
  obtain ⟨⟨w', h', n1', s', n2', d'⟩, m1', g', m2', j', m3', t'⟩ := b
  obtain ⟨h1, h2, h3, h4, h5, h6⟩ := e
  dsimp only at *
  subst h1 h2 h3 h4 h5; rfl
theorem EqR.lie {a b : Yd} (e : EqR a b) (s : So) : lieS a.r s = lieS b.r s := by
  obtain ⟨⟨w, h, n1, s1, n2, d⟩, m1, g, m2, j, m3, t⟩ := a
  obtain ⟨⟨w', h', n1', s1', n2', d'⟩, m1', g', m2', j', m3', t'⟩ := b
  obtain ⟨h1, h2, h3, h4, h5, h6⟩ := e
  dsimp only at *
  subst h1 h2 h3 h4; rfl
theorem EqR.fol {a b : Yd} (e : EqR a b) (s t : So) : folB a s t = folB b s t := by
  obtain ⟨⟨w, h, n1, s1, n2, d⟩, m1, g, m2, j, m3, t1⟩ := a
  obtain ⟨⟨w', h', n1', s1', n2', d'⟩, m1', g', m2', j', m3', t1'⟩ := b
  obtain ⟨h1, h2, h3, h4, h5, h6⟩ := e
  dsimp only at *
  subst h1 h2 h3 h4 h6; rfl
theorem EqR.way {a b : Yd} (e : EqR a b) (l : List So) : wayB a l = wayB b l := by
  have : badW a l = badW b l := by
    funext i
    unfold badW
    have := e.fol
    split
    · rfl
    · congr 1
      congr 1
      split <;> simp [this]
  unfold wayB
  rw [this]
/-- Other trains in a yard that is right. -/
theorem Val.trains {y : Yd} (v : Val y) {z : Yd} (e : EqR z y) (h3 : z.t.length ≤ 60) (hT : ∀ t ∈ z.t, fldT t = true) (hl : ∀ t ∈ z.t, ∀ s ∈ wy t, lieS y.r s = true) (hw : ∀ t ∈ z.t, wayB y (wy t) = true) : yErr z = 0 := by
  have p := Val.parts v.e
  refine yErr_zero (by rw [e.val]; exact p.1) (by rw [e.j]; exact p.2.1) h3 (by rw [e.j]; exact p.2.2.2.1) hT ?_ (fun t ht s hs => by rw [e.lie]; exact hl t ht s hs) (fun t ht => by rw [e.way]; exact hw t ht)
  have hb : badL z.r z.j = badL y.r y.j := by
    funext i
    unfold badL
    rw [e.j]
    split
    · rw [e.lie, e.lie]
    · rfl
  rw [hb, e.j]; exact p.2.2.2.2.2.1
/-- A part of a way, from its begin on. -/
theorem wayB_pre {y : Yd} {l m : List So} (h : wayB y (l ++ m) = true) : wayB y l = true := by
  unfold wayB at h ⊢
  rw [Bool.not_eq_true'] at h ⊢
  refine anyN_f fun i h0 hi => ?_
  have := anyN_off h h0 (show i < (l ++ m).length by simp; omega)
  unfold badW at this ⊢
  rw [List.getElem?_append_left hi, List.take_append_of_le_length (by omega)] at this
  rw [List.getElem?_eq_getElem hi] at this ⊢
  dsimp only at this ⊢
  by_cases c : 0 < i
  · rw [List.getElem?_append_left (by omega)] at this
    exact this
  · simp [c] at this ⊢
    exact this
end Go.Proofs.YtiaeckidlmoohaaGreat
end

section
set_option linter.unusedVariables false
set_option linter.unusedSimpArgs false
set_option maxHeartbeats 8000000
set_option maxRecDepth 20000
namespace Go.Proofs.YtiaeckidlmoohaaGreat
open Go.Proofs.YtiaeckidlmoohaaGreat.PM

/-- A train whose spots may still be written. -/
inductive Tq
  | v (t : Tr)
  | m (n v d : Int) (b g l : Nat)
instance : Enc Tq where
  sz := 5
  enc
    | .v t => Enc.enc t
    | .m n v d b g l => [.int .i64 n, .int .i64 v, .int .i64 d, .msl true b g 0 l 3, .list .nil 3 []]
  dec
    | [.int .i64 n, .int .i64 v, .int .i64 d, .msl true b g 0 l 3, .list .nil 3 []] => some (.m n v d b g l)
    | l => (Enc.dec l : Option Tr).map .v
  cln
    | .v t => Enc.cln t
    | .m .. => false
  ph := false
  pos := by decide
  len x := by cases x with | v t => exact Enc.len t | m => rfl
  one x := by cases x with | v t => exact Enc.one t | m => rfl
  pur _ := rfl
  hcln x := by cases x with | v t => exact Enc.hcln t | m => rfl
  dec_enc x := by
    cases x with
    | v t =>
      show (Enc.dec (Enc.enc t) : Option Tr).map Tq.v = some (.v t)
      rw [Enc.dec_enc]; rfl
    | m => rfl
  enc_dec l x h := by
    split at h
    · simp only [Option.some.injEq] at h; subst h; rfl
    · rw [Option.map_eq_some_iff] at h
      obtain ⟨t, h1, rfl⟩ := h
      exact Enc.enc_dec _ _ h1
@[simp] theorem sz_tq : Enc.sz Tq = 5 := rfl
@[simp] theorem enc_tqv (t : Tr) : Enc.enc (Tq.v t) = Enc.enc t := rfl
@[simp] theorem enc_tqm (n v d : Int) (b g l : Nat) : Enc.enc (Tq.m n v d b g l) = [.int .i64 n, .int .i64 v, .int .i64 d, mls So b g l, .list .nil 3 []] := rfl
theorem dec_tqm (n v d : Int) (b g l : Nat) : (Enc.dec [PV.int .i64 n, .int .i64 v, .int .i64 d, mls So b g l, .list .nil 3 []] : Option Tq) = some (.m n v d b g l) := rfl
theorem cl_q : ∀ ts : List Tr, cl (ts.map Tq.v) = cl ts
  | [] => rfl
  | t :: ts => by rw [List.map_cons, cl_cons, cl_cons, cl_q ts]; rfl
theorem mapO_app2 {f : PV → Option PV} : ∀ {xs ys xs' ys' : List PV}, mapO f xs = some xs' → mapO f ys = some ys' → mapO f (xs ++ ys) = some (xs' ++ ys')
  | [], ys, xs', ys', h1, h2 => by simp [mapO] at h1; subst h1; exact h2
  | x :: xs, ys, xs', ys', h1, h2 => by
    simp only [mapO, Option.bind_eq_some_iff, Option.map_eq_some_iff] at h1
    obtain ⟨x', hx, xs'', hxs, rfl⟩ := h1
    have := mapO_app2 hxs h2
    simp only [List.cons_append, mapO, hx, this, Option.bind_some, Option.map_some]
theorem mapO_q {H : Hp} {b e g : Nat} {k v d : Int} {sp : List So} (hb : H[b]? = some (bk e g sp)) : ∀ (ts : List Tr) (i n : Nat), i < ts.length → mapO (frz H .any (n + 2)) (cl ((ts.map Tq.v).set i (.m k v d b g sp.length))) = some (cl (ts.set i ⟨k, v, d, .any, sp, .nil, []⟩))
  | [], i, n, h => by simp at h
  | t :: ts, 0, n, h => by
    have h1 : frz H .any (n + 2) (mls So b g sp.length) = some (lst .any sp) := frz_mls hb rfl (.inr (by rw [List.all_eq_true]; exact fun _ _ => rfl))
    have h2 : mapO (frz H .any (n + 2)) (cl ts) = some (cl ts) := mapO_cl .any (n + 1) ts
    rw [List.map_cons, List.set_cons_zero, List.set_cons_zero, cl_cons, cl_cons, cl_q]
    refine mapO_app2 ?_ h2
    simp only [enc_tqm, mapO, frz_int, h1, frz_list, Option.bind_some, Option.map_some]
    rfl
  | t :: ts, i + 1, n, h => by
    have ih := mapO_q (k := k) (v := v) (d := d) hb ts i n (by simpa using h)
    rw [List.map_cons, List.set_cons_succ, List.set_cons_succ, cl_cons, cl_cons]
    refine mapO_app2 ?_ ih
    simp only [enc_tqv, enc_tr, mapO, frz_int, frz_lst, Option.bind_some, Option.map_some]
theorem frzB_q {H : Hp} {b e g g' m : Nat} {k v d : Int} {sp : List So} {ts : List Tr} {i n : Nat} (hn : 0 < n) (hb : H[b]? = some (bk e g sp)) (hi : i < ts.length) (hc : (ts.set i ⟨k, v, d, .any, sp, .nil, []⟩).all Enc.cln = true) (hm : m = ts.length) :
    frzB Tq H .any n (some (bk 68 g' ((ts.map Tq.v).set i (.m k v d b g sp.length)))) g' m = some (lst .any (ts.set i ⟨k, v, d, .any, sp, .nil, []⟩)) := by
  subst hm
  obtain ⟨n, rfl⟩ : ∃ n', n = n' + 1 := ⟨n - 1, by omega⟩
  have h1 := mapO_q (k := k) (v := v) (d := d) hb ts i n hi
  have h3 : List.take (ts.length * Enc.sz Tq) (cl ((ts.map Tq.v).set i (.m k v d b g sp.length))) = cl ((ts.map Tq.v).set i (.m k v d b g sp.length)) := by rw [List.take_of_length_le]; simp
  unfold frzB
  rw [if_neg (by omega)]
  simp only [Option.bind_some]
  rw [if_pos ⟨trivial, by simp⟩]
  simp only [Option.bind_some, h3, h1]
  rw [clean_cl, hc]
  rfl
def tz : Tr := ⟨0, 0, 0, .nil, [], .nil, []⟩
def zY : Yd := ⟨⟨0, 0, .nil, [], .nil, []⟩, .nil, [], .nil, [], .nil, []⟩
/-- The error of turning a train. -/
noncomputable def turnE (y : Yd) (i : Int) : Int := if askErr y i = 0 then (if (y.t.getD i.toNat tz).s = [] then 13 else if wayB y ((y.t.getD i.toNat tz).s.map rv) = true then 0 else 8) else askErr y i
/-- The yard behind it, as the program copies it. -/
noncomputable def turnY (y : Yd) (i : Int) : Yd := if turnE y i = 0 then cpY y ((y.t.map tcl).set i.toNat (trn (y.t.getD i.toNat tz))) else zY
noncomputable def turnV (y : Yd) (i : Int) : PV := .tup [vYd (turnY y i), .int .i64 (turnE y i)]
theorem rv_sum {r : Rl} {s : So} (h : lieS r s = true) : (rv s).o = sa s.p + sb s.p - s.o := by
  have hr := sab_rg (lieS_p h)
  show (if s.o = sa s.p then sb s.p else sa s.p) = _
  rcases lieS_o h with e | e
  · rw [if_pos e]; omega
  · rw [if_neg (by omega)]; omega
theorem turn_ok (y : Yd) (k : Yk y) (hn : yErr y = 0 → Yn y) (i : Int) : R tc 47 [vYd y, .int .i64 i] = some (turnV y i) := by
  have hv := askT_ok y k i
  unfold turnV
  refine R_of_G (F := pf47) (tc_nat _ rfl) rfl rfl ?_
  by_cases h0 : askErr y i = 0
  case neg =>
    have hE : turnE y i = askErr y i := by unfold turnE; rw [if_neg h0]
    have hY : turnY y i = zY := by unfold turnY; rw [hE, if_neg h0]
    rw [hE, hY]
    simp (disch := first | omega | with_unfolding_all rfl) [pf47, env0_eq, hv, h0, zY]
    exact ⟨rfl, rfl, rfl, rfl, rfl⟩
  rw [h0] at hv
  obtain ⟨h1, h2, h3⟩ := ask0 h0
  obtain ⟨I, rfl⟩ : ∃ I : Nat, i = I := ⟨i.toNat, by omega⟩
  have hI : I < y.t.length := by omega
  have hne : y.t ≠ [] := fun e => by rw [e] at hI; simp at hI
  have vl : Val y := ⟨h1, k⟩
  obtain ⟨x, hx⟩ : ∃ x, x = y.t[I] := ⟨_, rfl⟩
  have hxm : x ∈ y.t := by rw [hx]; exact List.getElem_mem hI
  have hgd : y.t.getD I tz = x := by rw [hx, List.getD_eq_getElem?_getD, List.getElem?_eq_getElem hI]; rfl
  by_cases hs : x.s = []
  · have hE : turnE y I = 13 := by unfold turnE; rw [if_pos h0, Int.toNat_natCast, hgd, if_pos hs]
    have hY : turnY y I = zY := by unfold turnY; rw [hE]; rfl
    rw [hE, hY]
    simp (disch := first | omega | with_unfolding_all rfl) [pf47, env0_eq, hv, hI, ← hx, hs, zY]
    exact ⟨rfl, rfl, rfl, rfl, rfl⟩
  have hlie : ∀ s ∈ x.s, lieS y.r s = true := fun s h => vl.lies x hxm s (by simp [wy, h])
  obtain ⟨Rv, hR⟩ : ∃ Rv, Rv = (x.s.map rv).reverse := ⟨_, rfl⟩
  have hRl : Rv.length = x.s.length := by rw [hR]; simp
  have hsl := (k.tr x hxm).1
  have hs1 : 0 < x.s.length := List.length_pos_iff.2 hs
  have hs0 : ¬ (x.s.length : Int) = 0 := by omega
  simp (disch := first | omega | with_unfolding_all rfl) [pf47, env0_eq, hv, hI, ← hx, hs, hs0]
  refine G_loopK [1, 2, 4, 7] (fun (c : Nat) e h => c ≤ x.s.length ∧ get e 9 = .int .i64 ((x.s.length : Int) - 1 - c) ∧ get e 8 = mls So 2 c c ∧ h = [⟨30, 0, [.int .i64 0, .int .i64 0, .list .nil 1 [], .list .nil 1 [], .list .nil 4 [], .list .nil 6 [], .list .nil 5 []], none⟩, ⟨68, 0, [.int .i64 x.n, .int .i64 x.v, .int .i64 x.d, lst x.n1 x.s, lst x.n2 x.a], none⟩, bk 54 c (Rv.take c)]) (fun c => x.s.length - c) (a₀ := 0) ⟨by omega, by simp, by simp; rfl, by simp⟩ ?_
  rintro c e h hk ⟨hc, g9, g8, rfl⟩
  simp at hk
  have hcl : (Rv.take c).length = c := by simp; omega
  by_cases hcn : c < x.s.length
  · have hj : (x.s.length : Int) - 1 - c = ((x.s.length - 1 - c : Nat) : Int) := by omega
    rw [hj] at g9
    have hjl : x.s.length - 1 - c < x.s.length := by omega
    obtain ⟨s, hsx⟩ : ∃ s, s = x.s[x.s.length - 1 - c] := ⟨_, rfl⟩
    have hli : lieS y.r s = true := hlie s (by rw [hsx]; exact List.getElem_mem hjl)
    have hen := endsT_ok (lieS_p hli)
    have hr := sab_rg (lieS_p hli)
    have hoo := lieS_o hli
    have hsum := rv_sum hli
    have hrv : (⟨s.t, s.p, sa s.p + sb s.p - s.o⟩ : So) = rv s := by rw [← hsum]; rfl
    have hRc : Rv.take (c + 1) = Rv.take c ++ [rv s] := by
      rw [List.take_add_one, hR, List.getElem?_reverse (by simpa using hcn), List.length_map, List.getElem?_map, List.getElem?_eq_getElem hjl, ← hsx]; rfl
    simp (disch := first | omega | with_unfolding_all rfl) [hk, g9, g8, ← hsx, hen, hrv, hcl]
    exact ⟨c + 1, by omega, by omega, by omega, rfl, rfl, by rw [hRc]⟩
  · have hce : c = x.s.length := by omega
    subst hce
    have g9' : get e 9 = .int .i64 (-1) := by rw [g9]; congr 1; omega
    have hRt : Rv.take x.s.length = Rv := List.take_of_length_le (by omega)
    rw [hRt]
    have hce := vl.d
    obtain ⟨B1, B2, B3, hc0⟩ := cloneY_ok y k (hn h1) (by omega) hne [⟨30, 0, [.int .i64 0, .int .i64 0, .list .nil 1 [], .list .nil 1 [], .list .nil 4 [], .list .nil 6 [], .list .nil 5 []], none⟩, ⟨68, 0, [.int .i64 x.n, .int .i64 x.v, .int .i64 x.d, lst x.n1 x.s, lst x.n2 x.a], none⟩, bk 54 x.s.length Rv] (fun m _ => by simp (disch := with_unfolding_all rfl))
    obtain ⟨ts, hts⟩ : ∃ ts, ts = y.t.map tcl := ⟨_, rfl⟩
    have htl : ts.length = y.t.length := by rw [hts]; simp
    have hI' : I < ts.length := by omega
    have hti : ts[I] = tcl x := by
      have : ts[I]? = some (tcl x) := by rw [hts, List.getElem?_map, List.getElem?_eq_getElem hI, ← hx]; rfl
      rw [List.getElem?_eq_getElem hI'] at this
      exact Option.some.inj this
    rw [← hts] at hc0
    have hbq : bk 68 1 ts = bk 68 1 (ts.map Tq.v) := by
      show Blk.mk 68 1 (cl ts) none = Blk.mk 68 1 (cl (ts.map Tq.v)) none
      rw [cl_q]
    rw [hbq] at hc0
    have hcq : RO tc 76 [vYd y] [⟨30, 0, [.int .i64 0, .int .i64 0, .list .nil 1 [], .list .nil 1 [], .list .nil 4 [], .list .nil 6 [], .list .nil 5 []], none⟩, ⟨68, 0, [.int .i64 x.n, .int .i64 x.v, .int .i64 x.d, lst x.n1 x.s, lst x.n2 x.a], none⟩, bk 54 x.s.length Rv] = some (.agg [.int .i64 y.r.w, .int .i64 y.r.h, lst .any y.r.s, lst .any y.r.d, lst .any y.g, lst .any y.j, mls Tq 6 1 y.t.length], [⟨30, 0, [.int .i64 0, .int .i64 0, .list .nil 1 [], .list .nil 1 [], .list .nil 4 [], .list .nil 6 [], .list .nil 5 []], none⟩, ⟨68, 0, [.int .i64 x.n, .int .i64 x.v, .int .i64 x.d, lst x.n1 x.s, lst x.n2 x.a], none⟩, bk 54 x.s.length Rv, B1, B2, B3, bk 68 1 (ts.map Tq.v)]) := hc0
    obtain ⟨F, hF, hFd⟩ := fieldOf_ok y (by have := k.g; omega) (by have := k.j; omega)
    obtain ⟨nl, hnl, hw⟩ := whole_ok ⟨x.n, 0, 0, .bor, Rv, .nil, []⟩ (fun e => by cases e) (fun _ => rfl) (by show Rv.length ≤ 2000; omega) (by simp)
    have hwy : wy ⟨x.n, 0, 0, .bor, Rv, .nil, []⟩ = x.s.map rv := by simp [wy, hR]
    rw [hwy] at hw
    have hw' : R tc 59 [.agg [.int .i64 x.n, .int .i64 0, .int .i64 0, lst .bor Rv, .list .nil 3 []]] = some (lst nl (x.s.map rv)) := hw
    have hnb : nl ≠ .bor := by rcases hnl with rfl | rfl <;> decide
    have hp := path_ok hFd vl.good (by have := k.j; omega) (nl := nl) (l := x.s.map rv) (by simp; omega) (fun s hs => by
      obtain ⟨u, hu, rfl⟩ := List.mem_map.1 hs
      exact rv_lies (hlie u hu))
    have htr : trn x = ⟨x.n, 0, 0, .any, Rv, .nil, []⟩ := by rw [hR]; rfl
    have hcn : (ts.set I ⟨x.n, 0, 0, .any, Rv, .nil, []⟩).all Enc.cln = true := by rw [hts]; exact all_set (tcl_cln y.t) I rfl
    have hfz := fun (H : Hp) (m : Nat) (hm : 0 < m) (hb : H[2]? = some (bk 54 x.s.length Rv)) => frzB_q (g' := 1) (m := y.t.length) (k := x.n) (v := 0) (d := 0) hm hb hI' hcn htl.symm
    simp only [hRl] at hfz
    have hm1 : I < (ts.map Tq.v).length := by simp; omega
    have hm2 : ∀ z, I < ((ts.map Tq.v).set I z).length := fun z => by simp; omega
    obtain ⟨ks1, vs1, ks2, vs2, -, -⟩ := hFd
    have hpm : ∀ b g l, (mls So b g l).pureB = false := fun _ _ _ => rfl
    by_cases hwb : wayB y (x.s.map rv) = true
    · have hE : turnE y I = 0 := by unfold turnE; rw [if_pos h0, Int.toNat_natCast, hgd, if_neg hs, if_pos hwb]
      have hY : turnY y I = cpY y (ts.set I ⟨x.n, 0, 0, .any, Rv, .nil, []⟩) := by unfold turnY; rw [hE, if_pos rfl, Int.toNat_natCast, hgd, htr, ← hts]
      rw [hE, hY]
      simp (disch := first | omega | exact hm1 | exact hm2 _ | with_unfolding_all rfl) [hk, g9', g8, hcq, hti, tcl, dec_tqm, hF, hpm, hw', hp, hwb, hnb, hfz, cpY]
    · have hE : turnE y I = 8 := by unfold turnE; rw [if_pos h0, Int.toNat_natCast, hgd, if_neg hs, if_neg hwb]
      have hY : turnY y I = zY := by unfold turnY; rw [hE]; rfl
      rw [hE, hY]
      simp (disch := first | omega | exact hm1 | exact hm2 _ | with_unfolding_all rfl) [hk, g9', g8, hcq, hti, tcl, dec_tqm, hF, hpm, hw', hp, hwb, hnb, hfz, zY]
      exact ⟨rfl, rfl, rfl, rfl, rfl⟩
end Go.Proofs.YtiaeckidlmoohaaGreat
end

section
set_option linter.unusedVariables false
set_option linter.unusedSimpArgs false
set_option maxHeartbeats 8000000
set_option maxRecDepth 20000
namespace Go.Proofs.YtiaeckidlmoohaaGreat
open Go.Proofs.YtiaeckidlmoohaaGreat.PM

/-- The yard behind it, as the document copies it. -/
noncomputable def turnX (y : Yd) (i : Int) : Yd := if turnE y i = 0 then rcY y ((y.t.map rtcl).set i.toNat (trn (y.t.getD i.toNat tz))) else zY
abbrev Z0 : Blk := ⟨30, 0, [.int .i64 0, .int .i64 0, .list .nil 1 [], .list .nil 1 [], .list .nil 4 [], .list .nil 6 [], .list .nil 5 []], none⟩
abbrev T0 (x : Tr) : Blk := ⟨68, 0, [.int .i64 x.n, .int .i64 x.v, .int .i64 x.d, lst x.n1 x.s, lst x.n2 x.a], none⟩
abbrev N0 (n : Int) (v : PV) : Blk := ⟨68, 0, [.int .i64 n, .int .i64 0, .int .i64 0, v, .list .nil 3 []], none⟩
/-- The train that is being turned. -/
def NwH (x : Tr) (Rv : List So) (j : Nat) (h : Hp) : Prop := (j = 0 ∧ h = [Z0, T0 x, N0 x.n (.list .nil 3 [])]) ∨ (0 < j ∧ ∃ (b0 : Blk) (bs : Hp), h = Z0 :: T0 x :: N0 x.n (mls So 4 j j) :: b0 :: bk 54 j (Rv.take j) :: bs ∧ (∀ m, b0.nr m = true) ∧ ∀ m, (bs.all fun B => B.nr m) = true)
theorem refTurn_ok (y : Yd) (k : Yk y) (i : Int) : R tc 48 [vYd y, .int .i64 i] = some (.tup [vYd (turnX y i), .int .i64 (turnE y i)]) := by
  have hv := refAskT_ok y k i
  refine R_of_G (F := pf48) (tc_nat _ rfl) rfl rfl ?_
  by_cases h0 : askErr y i = 0
  case neg =>
    have hE : turnE y i = askErr y i := by unfold turnE; rw [if_neg h0]
    have hY : turnX y i = zY := by unfold turnX; rw [hE, if_neg h0]
    rw [hE, hY]
    simp (disch := first | omega | with_unfolding_all rfl) [pf48, env0_eq, hv, h0, zY]
    exact ⟨rfl, rfl, rfl, rfl, rfl⟩
  rw [h0] at hv
  obtain ⟨h1, h2, h3⟩ := ask0 h0
  obtain ⟨I, rfl⟩ : ∃ I : Nat, i = I := ⟨i.toNat, by omega⟩
  have hI : I < y.t.length := by omega
  have hne : y.t ≠ [] := fun e => by rw [e] at hI; simp at hI
  have vl : Val y := ⟨h1, k⟩
  obtain ⟨x, hx⟩ : ∃ x, x = y.t[I] := ⟨_, rfl⟩
  have hxm : x ∈ y.t := by rw [hx]; exact List.getElem_mem hI
  have hgd : y.t.getD I tz = x := by rw [hx, List.getD_eq_getElem?_getD, List.getElem?_eq_getElem hI]; rfl
  by_cases hs : x.s = []
  · have hE : turnE y I = 13 := by unfold turnE; rw [if_pos h0, Int.toNat_natCast, hgd, if_pos hs]
    have hY : turnX y I = zY := by unfold turnX; rw [hE]; rfl
    rw [hE, hY]
    simp (disch := first | omega | with_unfolding_all rfl) [pf48, env0_eq, hv, hI, ← hx, hs, zY]
    exact ⟨rfl, rfl, rfl, rfl, rfl⟩
  have hlie : ∀ s ∈ x.s, lieS y.r s = true := fun s h => vl.lies x hxm s (by simp [wy, h])
  obtain ⟨Rv, hR⟩ : ∃ Rv, Rv = (x.s.map rv).reverse := ⟨_, rfl⟩
  have hRl : Rv.length = x.s.length := by rw [hR]; simp
  have hsl := (k.tr x hxm).1
  have hs1 : 0 < x.s.length := List.length_pos_iff.2 hs
  have hs0 : ¬ (x.s.length : Int) = 0 := by omega
  simp (disch := first | omega | with_unfolding_all rfl) [pf48, env0_eq, hv, hI, ← hx, hs, hs0]
  refine G_loopK [1, 2, 4, 7, 8, 34] (fun (j : Nat) e h => j ≤ x.s.length ∧ get e 35 = .int .i64 (j : Int) ∧ NwH x Rv j h) (fun j => x.s.length - j) (a₀ := 0) ⟨by omega, by simp, .inl ⟨rfl, rfl⟩⟩ ?_
  rintro j e h hk ⟨hj, g35, hN⟩
  simp at hk
  simp (disch := first | omega | with_unfolding_all rfl) [hk, g35]
  refine G_brd (fun d => ?_) (fun d => ?_)
  · have hjn : j < x.s.length := by omega
    have hjl : x.s.length - 1 - j < x.s.length := by omega
    have hix : (x.s.length : Int) - 1 - j = ((x.s.length - 1 - j : Nat) : Int) := by omega
    obtain ⟨s, hsx⟩ : ∃ s, s = x.s[x.s.length - 1 - j] := ⟨_, rfl⟩
    have hli : lieS y.r s = true := hlie s (by rw [hsx]; exact List.getElem_mem hjl)
    have hot := otherR_ok (lieS_p hli) s.o
    have ho2 : (if s.o = sa s.p then sb s.p else if s.o = sb s.p then sa s.p else -1) = (rv s).o := by
      have hr := sab_rg (lieS_p hli)
      show _ = if s.o = sa s.p then sb s.p else sa s.p
      rcases lieS_o hli with q | q
      · rw [if_pos q, if_pos q]
      · have hne : ¬ s.o = sa s.p := by omega
        rw [if_neg hne, if_pos q, if_neg hne]
    rw [ho2] at hot
    have hrv : (⟨s.t, s.p, (rv s).o⟩ : So) = rv s := rfl
    have hRc : Rv.take (j + 1) = Rv.take j ++ [rv s] := by
      rw [List.take_add_one, hR, List.getElem?_reverse (by simpa using hjn), List.length_map, List.getElem?_map, List.getElem?_eq_getElem hjl, ← hsx]; rfl
    have hcl : (Rv.take j).length = j := by simp; omega
    have hap : ∀ H : Hp, evApp 54 3 24 (.list .nil 3 []) (lst .ex [rv s]) H = some (mls So H.length 1 1, H ++ [bk 54 1 [rv s]]) := fun H => by
      rw [evApp_nil_lst (by simp)]; simp
    rcases hN with ⟨rfl, rfl⟩ | ⟨hj0, b0, bs, rfl, hb0, hbs⟩
    · have hsx0 : s = x.s[x.s.length - 1]'(by omega) := hsx
      simp (disch := first | omega | with_unfolding_all rfl) [hk, g35, d, hix, ← hsx0, hot, hrv, hap]
      exact ⟨1, by omega, by omega, by omega, .inr ⟨by omega, _, [], by rw [show Rv.take 1 = [rv s] from hRc], fun m => by simp, fun m => rfl⟩⟩
    · simp (disch := first | omega | with_unfolding_all rfl) [hk, g35, d, hix, ← hsx, hot, hrv, hcl]
      exact ⟨j + 1, by omega, by omega, by omega, .inr ⟨by omega, b0, bs ++ [⟨54, 0, [.int .i64 s.t, .int .i64 s.p, .int .i64 s.o], none⟩], by rw [hRc], hb0, fun m => by rw [List.all_append, hbs m]; simp⟩⟩
  · have hje : j = x.s.length := by omega
    subst hje
    rcases hN with ⟨q, _⟩ | ⟨_, b0, bs, rfl, hb0, hbs⟩
    · omega
    have hRt : Rv.take x.s.length = Rv := List.take_of_length_le (by omega)
    rw [hRt]
    have hce := vl.d
    obtain ⟨B1, B2, hc0⟩ := copied_ok y k (by omega) hne (Z0 :: T0 x :: N0 x.n (mls So 4 x.s.length x.s.length) :: b0 :: bk 54 x.s.length Rv :: bs) (fun m hm => by
      have h5 : 4 < m := by simp at hm; omega
      have hq := hbs m
      have hq0 := hb0 m
      rw [List.all_cons, List.all_cons, List.all_cons, List.all_cons, List.all_cons, hq, hq0]
      simp (disch := with_unfolding_all rfl) [h5])
    obtain ⟨ts, hts⟩ : ∃ ts, ts = y.t.map rtcl := ⟨_, rfl⟩
    have htl : ts.length = y.t.length := by rw [hts]; simp
    have hI' : I < ts.length := by omega
    have hti : ts[I] = rtcl x := by
      have : ts[I]? = some (rtcl x) := by rw [hts, List.getElem?_map, List.getElem?_eq_getElem hI, ← hx]; rfl
      rw [List.getElem?_eq_getElem hI'] at this
      exact Option.some.inj this
    rw [← hts] at hc0
    have hbq : bk 68 0 ts = bk 68 0 (ts.map Tq.v) := by
      show Blk.mk 68 0 (cl ts) none = Blk.mk 68 0 (cl (ts.map Tq.v)) none
      rw [cl_q]
    rw [hbq] at hc0
    have hcq : RO tc 81 [vYd y] (Z0 :: T0 x :: N0 x.n (mls So 4 x.s.length x.s.length) :: b0 :: bk 54 x.s.length Rv :: bs) = some (.agg [.int .i64 y.r.w, .int .i64 y.r.h, lst (nlA y.r.s) y.r.s, lst (nlA y.r.d) y.r.d, lst (nlA y.g) y.g, lst (nlA y.j) y.j, mls Tq (bs.length + 7) 0 y.t.length], Z0 :: T0 x :: N0 x.n (mls So 4 x.s.length x.s.length) :: b0 :: bk 54 x.s.length Rv :: (bs ++ [B1, B2, bk 68 0 (ts.map Tq.v)])) := hc0
    have hw := way_ok ⟨x.n, 0, 0, .bor, Rv, .nil, []⟩ (by show Rv.length ≤ 2000; omega) (by simp)
    have hwy : wy ⟨x.n, 0, 0, .bor, Rv, .nil, []⟩ = x.s.map rv := by simp [wy, hR]
    rw [hwy] at hw
    have hw' : R tc 67 [.agg [.int .i64 x.n, .int .i64 0, .int .i64 0, lst .bor Rv, .list .nil 3 []]] = some (lst .any (x.s.map rv)) := hw
    have hp := one_ok vl.good (by have := k.j; omega) (nl := .any) (l := x.s.map rv) (by simp; omega) (fun s hs => by
      obtain ⟨u, hu, rfl⟩ := List.mem_map.1 hs
      exact rv_lies (hlie u hu))
    have htr : trn x = ⟨x.n, 0, 0, .any, Rv, .nil, []⟩ := by rw [hR]; rfl
    have hcn : (ts.set I ⟨x.n, 0, 0, .any, Rv, .nil, []⟩).all Enc.cln = true := by rw [hts]; exact all_set (rtcl_cln y.t) I rfl
    have hfz := fun (H : Hp) (m : Nat) (hm : 0 < m) (hb : H[4]? = some (bk 54 x.s.length Rv)) => frzB_q (g' := 0) (m := y.t.length) (k := x.n) (v := 0) (d := 0) hm hb hI' hcn htl.symm
    simp only [hRl] at hfz
    have hm1 : I < (ts.map Tq.v).length := by simp; omega
    have hm2 : ∀ z, I < ((ts.map Tq.v).set I z).length := fun z => by simp; omega
    have hpm : ∀ b g l, (mls So b g l).pureB = false := fun _ _ _ => rfl
    by_cases hwb : wayB y (x.s.map rv) = true
    · have hE : turnE y I = 0 := by unfold turnE; rw [if_pos h0, Int.toNat_natCast, hgd, if_neg hs, if_pos hwb]
      have hY : turnX y I = rcY y (ts.set I ⟨x.n, 0, 0, .any, Rv, .nil, []⟩) := by unfold turnX; rw [hE, if_pos rfl, Int.toNat_natCast, hgd, htr, ← hts]
      rw [hE, hY]
      simp (disch := first | omega | exact hm1 | exact hm2 _ | with_unfolding_all rfl) [hk, g35, hp_at, hp_at0, hp_sk, hp_s0, hcq, hti, rtcl, dec_tqm, hpm, hw', hp, hwb, hfz, rcY]
    · have hE : turnE y I = 8 := by unfold turnE; rw [if_pos h0, Int.toNat_natCast, hgd, if_neg hs, if_neg hwb]
      have hY : turnX y I = zY := by unfold turnX; rw [hE]; rfl
      rw [hE, hY]
      simp (disch := first | omega | exact hm1 | exact hm2 _ | with_unfolding_all rfl) [hk, g35, hpm, hw', hp, hwb, zY]
      exact ⟨rfl, rfl, rfl, rfl, rfl⟩
end Go.Proofs.YtiaeckidlmoohaaGreat
end

section
set_option linter.unusedVariables false
set_option linter.unusedSimpArgs false
set_option maxHeartbeats 8000000
set_option maxRecDepth 20000
namespace Go.Proofs.YtiaeckidlmoohaaGreat
open Go.Proofs.YtiaeckidlmoohaaGreat.PM

theorem turn0 {y : Yd} {i : Int} (h : turnE y i = 0) : askErr y i = 0 ∧ (y.t.getD i.toNat tz).s ≠ [] ∧ wayB y ((y.t.getD i.toNat tz).s.map rv) = true := by
  unfold turnE at h
  split at h
  · rename_i h0
    split at h
    · cases h
    · rename_i h1
      split at h
      · rename_i h2; exact ⟨h0, h1, h2⟩
      · cases h
  · rename_i h0; exact absurd h h0
theorem turnE_eq {y : Yd} {i : Int} (h0 : askErr y i = 0) (h1 : (y.t.getD i.toNat tz).s ≠ []) (h2 : wayB y ((y.t.getD i.toNat tz).s.map rv) = true) : turnE y i = 0 := by
  unfold turnE; rw [if_pos h0, if_neg h1, if_pos h2]
theorem wy_tcl (t : Tr) : wy (tcl t) = wy t := rfl
theorem fld_trn {t : Tr} (h : fldT t = true) : fldT (trn t) = true := by
  unfold fldT at h ⊢
  rw [decide_eq_true_eq] at h ⊢
  simp [trn]
  omega
theorem rv_back {r : Rl} {l : List So} (h : ∀ s ∈ l, lieS r s = true) : (l.map rv).map rv = l := by
  rw [List.map_map]
  conv => rhs; rw [← List.map_id l]
  exact List.map_congr_left fun s hs => rv_rv (h s hs)
/-- A yard with a train that is turned. -/
theorem turned {y : Yd} (k : Yk y) {I : Nat} (h : turnE y I = 0) : ∃ (x : Tr) (P : Yd), x ∈ y.t ∧ y.t[I]? = some x ∧ turnY y I = P ∧ turnX y I = rcY y ((y.t.map rtcl).set I (trn x)) ∧ P = cpY y ((y.t.map tcl).set I (trn x)) ∧ Val y ∧ I < y.t.length ∧ Yk P ∧ Yn P ∧ turnE P I = 0 ∧ ∃ z : Tr, (turnY P I).t[I]? = some z ∧ z.s = x.s ∧ z.a = [] := by
  obtain ⟨h0, hs, hw⟩ := turn0 h
  obtain ⟨h1, h2, h3⟩ := ask0 h0
  have hI : I < y.t.length := by omega
  have vl : Val y := ⟨h1, k⟩
  obtain ⟨x, hx⟩ : ∃ x, x = y.t[I] := ⟨_, rfl⟩
  have hxm : x ∈ y.t := by rw [hx]; exact List.getElem_mem hI
  have hxo : y.t[I]? = some x := by rw [List.getElem?_eq_getElem hI, ← hx]
  have hgd : y.t.getD (I : Int).toNat tz = x := by rw [Int.toNat_natCast, List.getD_eq_getElem?_getD, hxo]; rfl
  rw [hgd] at hs hw
  have hlie : ∀ s ∈ x.s, lieS y.r s = true := fun s h => vl.lies x hxm s (by simp [wy, h])
  obtain ⟨P, hP⟩ : ∃ P, P = cpY y ((y.t.map tcl).set I (trn x)) := ⟨_, rfl⟩
  have hPt : P.t = (y.t.map tcl).set I (trn x) := by rw [hP]; rfl
  have hPl : P.t.length = y.t.length := by rw [hPt]; simp
  have hmem : ∀ t ∈ P.t, (∃ u ∈ y.t, t = tcl u) ∨ t = trn x := fun t ht => by
    rw [hPt] at ht
    rcases List.mem_or_eq_of_mem_set ht with ht | rfl
    · obtain ⟨u, hu, rfl⟩ := List.mem_map.1 ht
      exact .inl ⟨u, hu, rfl⟩
    · exact .inr rfl
  have hxl := k.tr x hxm
  have hPk : Yk P := by
    refine ⟨by rw [hP]; exact k.s, by rw [hP]; exact k.g, by rw [hP]; exact k.j, by rw [hPl]; exact k.t, fun t ht => ?_⟩
    rcases hmem t ht with ⟨u, hu, rfl⟩ | rfl
    · exact ⟨(k.tr u hu).1, (k.tr u hu).2.1, fun e => by cases e⟩
    · exact ⟨by simp [trn]; omega, by simp [trn], fun e => by cases e⟩
  have hPn : Yn P := by
    refine ⟨fun e => ?_, fun e => ?_, fun e => ?_, fun e => ?_, ?_, fun t ht => ?_⟩
    · rw [hP] at e; cases e
    · rw [hP] at e; cases e
    · rw [hP] at e; cases e
    · rw [hP] at e; cases e
    · rw [hP]; exact fun e => by cases e
    · rcases hmem t ht with ⟨u, hu, rfl⟩ | rfl
      · exact ⟨fun e => (by cases e), fun e => (by cases e)⟩
      · exact ⟨fun e => (by cases e), fun _ => rfl⟩
  have hE : EqR P y := by rw [hP]; exact ⟨rfl, rfl, rfl, rfl, rfl, rfl⟩
  have hPe : yErr P = 0 := by
    refine vl.trains hE (by rw [hPl]; exact (Val.parts h1).2.2.1) (fun t ht => ?_) (fun t ht s hs => ?_) fun t ht => ?_
    · rcases hmem t ht with ⟨u, hu, rfl⟩ | rfl
      · have hq : fldT u = true := vl.fld hu
        exact hq
      · exact fld_trn (vl.fld hxm)
    · rcases hmem t ht with ⟨u, hu, rfl⟩ | rfl
      · exact vl.lies u hu s hs
      · rw [wy_trn] at hs
        obtain ⟨q, hq, rfl⟩ := List.mem_map.1 hs
        exact rv_lies (hlie q hq)
    · rcases hmem t ht with ⟨u, hu, rfl⟩ | rfl
      · have hq : wayB y (wy u) = true := vl.way hu
        exact hq
      · rw [wy_trn]; exact hw
  have hPg : P.t.getD (I : Int).toNat tz = trn x := by
    rw [Int.toNat_natCast, List.getD_eq_getElem?_getD, hPt, List.getElem?_set_self (by simpa using hI)]; rfl
  have hts : (trn x).s = (x.s.map rv).reverse := rfl
  have hback : (trn x).s.map rv = x.s.reverse := by rw [hts, List.map_reverse, rv_back hlie]
  have hPa : askErr P I = 0 := by
    unfold askErr
    rw [if_pos hPe, if_neg (by omega)]
  have hPE : turnE P I = 0 := by
    refine turnE_eq hPa ?_ ?_
    · rw [hPg, hts]; simpa using hs
    · rw [hPg, hback, hE.way]
      exact wayB_pre (m := x.a) (vl.way hxm)
  refine ⟨x, P, hxm, hxo, ?_, ?_, hP, vl, hI, hPk, hPn, hPE, trn (trn x), ?_, ?_, rfl⟩
  · unfold turnY; rw [if_pos h, hgd, Int.toNat_natCast, hP]
  · unfold turnX; rw [if_pos h, hgd, Int.toNat_natCast]
  · unfold turnY
    rw [if_pos hPE, hPg, Int.toNat_natCast]
    show ((P.t.map tcl).set I (trn (trn x)))[I]? = _
    rw [List.getElem?_set_self (by simp; omega)]
  · show ((trn x).s.map rv).reverse = x.s
    rw [hback, List.reverse_reverse]
theorem turnE_no {y : Yd} {i : Int} (h : turnE y i ≠ 0) : turnY y i = zY ∧ turnX y i = zY := by
  unfold turnY turnX
  rw [if_neg h, if_neg h]; exact ⟨rfl, rfl⟩
theorem zk : Yk zY := ⟨by simp [zY], by simp [zY], by simp [zY], by simp [zY], fun t h => by simp [zY] at h⟩
theorem zE : ¬ yErr zY = 0 := by
  have : valErr zY.r zY.g = 1 := by simp [valErr, railErr, dims, zY]
  unfold yErr
  rw [if_neg (by rw [this]; decide), this]; decide
theorem law16_ok (y : Yd) (a : Ya y) (i : Int) : R tc 16 [vYd y, .int .i64 i] = some (.bool true) := by
  obtain ⟨b, h1, h2⟩ := large_ok y a.t (nl := .nil) [] (by simp)
  refine R_of_G (F := pf16) (tc_nat _ rfl) rfl rfl ?_
  have hk := knownC_ok
  have h1' : R tc 19 [vYd y, .list .nil 1 []] = some (.bool b) := h1
  cases b
  · have k := Ya.k a (h2 rfl).1
    have e1 := turn_ok y k (fun _ => Ya.yn a) i
    have e2 := refTurn_ok y k i
    unfold turnV at e1
    by_cases h0 : turnE y i = 0
    · obtain ⟨q1, q2, q3⟩ := ask0 (turn0 h0).1
      obtain ⟨I, rfl⟩ : ∃ I : Nat, i = I := ⟨i.toNat, by omega⟩
      obtain ⟨x, P, hxm, hxo, hP1, hQ, hP, vl, hI, hPk, hPn, hPE, z, hz, hzs, hza⟩ := turned k h0
      have e4 := turn_ok P hPk (fun _ => hPn) I
      unfold turnV at e4
      rw [hPE] at e4
      rw [hP1, h0] at e1
      rw [h0] at e2
      obtain ⟨Bk, hBk⟩ : ∃ Bk, Bk = turnY P I := ⟨_, rfl⟩
      rw [← hBk] at e4 hz
      obtain ⟨hBl, hBz⟩ := List.getElem?_eq_some_iff.1 hz
      obtain ⟨_, hxz⟩ := List.getElem?_eq_some_iff.1 hxo
      have hsm := sameR_of y ((y.t.map tcl).set I (trn x)) ((y.t.map rtcl).set I (trn x)) (by simp) (same_set ⟨rfl, rfl, rfl, rfl, rfl⟩)
      rw [← hP, ← hQ] at hsm
      obtain ⟨Q, hQ2⟩ : ∃ Q, Q = turnX y I := ⟨_, rfl⟩
      rw [← hQ2] at e2 hsm
      have hPt := hPk.tr
      have hPd : P.r.d.length ≤ 100000 := by rw [hP]; have := vl.d; show y.r.d.length ≤ 100000; omega
      have e3 := same27_ok hsm (by have := hPk.s; omega) hPd (by have := hPk.g; omega) (by have := hPk.j; omega) (by have := hPk.t; omega) (fun t ht => by have := hPt t ht; omega)
      have e5 := same38_ok (n1 := z.n1) (n2 := x.n1) x.s (by have := (k.tr x hxm).1; omega)
      have hza0 : z.a.length = 0 := by rw [hza]; rfl
      simp (disch := first | omega | with_unfolding_all rfl) [pf16, env0_eq, h1', hk, e1, e2, e3, e4, e5, hI, hBl, hBz, hxz, hzs, hza0]
    · obtain ⟨hP, hQ⟩ := turnE_no h0
      rw [hP] at e1
      rw [hQ] at e2
      have e3 : R tc 27 [vYd zY, vYd zY] = some (.bool true) := same27_ok (a := zY) (b := zY) ⟨⟨rfl, rfl, rfl, rfl⟩, rfl, rfl, rfl, fun i h => absurd h (Nat.not_lt_zero i)⟩ (by simp [zY]) (by simp [zY]) (by simp [zY]) (by simp [zY]) (by simp [zY]) (fun t h => by simp [zY] at h)
      have e4 := turn_ok zY zk (fun h => absurd h zE) i
      unfold turnV at e4
      simp (disch := first | omega | with_unfolding_all rfl) [pf16, env0_eq, h1', hk, e1, e2, e3, e4, h0]
  · simp (disch := first | omega | with_unfolding_all rfl) [pf16, env0_eq, h1', hk]
end Go.Proofs.YtiaeckidlmoohaaGreat
end
