/- Airports: over any ticks, arrivals and wishes: the law's function. -/
import Derived.Test.YtmbknidfkddpfaaAirKeep3
import Derived.Test.YtmbknidfkddpfaaAirStep3
set_option linter.unusedVariables false
set_option linter.unusedSimpArgs false
set_option maxHeartbeats 16000000
set_option maxRecDepth 20000
namespace Go.Proofs.Ytmbknidfkddpfaa
open Go.Proofs.Ytmbknidfkddpfaa.PM

/-- A list of numbers in a list. -/
structure Li where
  nl : Nl
  xs : List Int
def encLi (x : Li) : List PV := [lst x.nl x.xs]
theorem encLi_inj (x y : Li) (h : encLi x = encLi y) : x = y := by
  obtain ⟨a, b⟩ := x
  obtain ⟨c, d⟩ := y
  simp only [encLi, List.cons.injEq, and_true] at h
  obtain ⟨h1, h2⟩ := lst_inj h
  subst h1 h2; rfl
noncomputable instance : Enc Li where
  sz := 1
  enc := encLi
  dec := decOf encLi
  cln x := x.nl != .bor
  pos := by decide
  len _ := rfl
  one _ := rfl
  pur _ := rfl
  hcln x := by simp [encLi]
  dec_enc := decOf_enc encLi_inj
  enc_dec _ _ := enc_decOf
instance : Flat Li := ⟨fun _ _ _ _ => rfl⟩
@[simp] theorem sz_li : Enc.sz Li = 1 := rfl
@[simp] theorem enc_li (x : Li) : Enc.enc x = [lst x.nl x.xs] := rfl
@[simp] theorem cln_li (x : Li) : Enc.cln x = (x.nl != .bor) := rfl
section
variable {T : Table} {k : List Fr} {e : Env} {h : Hp} {Q : Post}
/-- A piece, then what is behind it. -/
theorem G_cut {p : PCode} (J : Env → Hp → Prop) (h1 : G T [.code p, .stop J] .normal e h (fun x e' h' => G T k x e' h' Q)) (h2 : ∀ e' h', J e' h' → G T k .normal e' h' Q) : G T (.code p :: k) .normal e h Q := by
  rw [G_code] at h1 ⊢
  obtain ⟨q, hq, hg⟩ := h1
  refine ⟨q, hq, ?_⟩
  obtain ⟨x, e', h'⟩ := q
  cases x with
  | normal => exact h2 _ _ (by simpa using hg)
  | exit i => simpa using hg
  | ret => simpa using hg
end
/-- What a call brings. -/
structure NxO (s : Sk) (a : Li) (e : Int) (pl : List Pl) (now : Int) (D : List Int) : Prop where
  sk : e = 0 → skyErr (nxS s pl now) = 0
  len : e = 0 → pl.length = s.pls.length
  mv : e = 0 → a.xs.length ≠ 1 → ∀ (i : Nat) (p q : Pl), pl[i]? = some p → s.pls[i]? = some q → p.pos = q.pos ∨ (p.pos = -1 ∧ q.wish = 2 ∧ 0 ≤ q.pos ∧ kd s.fd.nodes q.pos.toNat = 0) ∨ (0 ≤ q.pos ∧ 0 ≤ p.pos ∧ p.pos ∈ onOf s.fd.nodes q.pos.toNat)
  dn : e = 0 → ∀ x ∈ D, ∃ (i : Nat) (p q : Pl), x = (i : Int) ∧ pl[i]? = some p ∧ s.pls[i]? = some q ∧ p.wish = 0 ∧ (q.wish = 1 → 0 ≤ p.pos ∧ kd s.fd.nodes p.pos.toNat = 3) ∧ (q.wish = 2 → p.pos = -1)
  dl : D.length ≤ 400
noncomputable abbrev skB (s : Sk) : Blk := ⟨31, 0, [lst s.fd.nl s.fd.nodes, .int .i64 s.fd.inn, lst s.nlp s.pls, .int .i64 s.now], none⟩
theorem stN_dl (ns : List Nd) (pl : List Pl) (O : List Int) (j : Nat) : (stN ns pl O j).2.length ≤ j := by
  induction j with
  | zero => exact Nat.le_refl _
  | succ j ih =>
    simp only [stN]
    split
    · unfold turn
      split
      · omega
      · split
        · simp only [List.length_append, List.length_cons, List.length_nil]; omega
        · dsimp only; omega
    · omega
theorem keeps_ok (s : Sk) (hf : s.fd.nl ≠ .bor) (hp : s.nlp ≠ .bor) (hb : s.fd.nodes.length ≤ maxLen) (hpb : s.pls.length ≤ maxLen) (nla : Nl) (acts : List Li) (hal : acts.length ≤ maxLen) (hax : ∀ a ∈ acts, a.xs.length ≤ maxLen) : R tb 12 [vSk s, lst nla acts] = some (.bool true) := by
  have hm : maxLen = 9223372036854775807 := rfl
  have h1 := large_ok s.fd hf hb
  simp only [vFd] at h1
  refine R_of_G (F := pf12) rfl rfl rfl ?_
  simp (disch := first | omega | with_unfolding_all rfl) [pf12, env0_eq, h1]
  cases hl : large s.fd
  case true => simp (disch := first | omega | with_unfolding_all rfl) [hl, known_ok]
  have hc := large_le hl
  have hb4 : s.fd.nodes.length ≤ 400 := by
    simp only [large, Bool.or_eq_false_iff, decide_eq_false_iff_not] at hl
    omega
  simp (disch := first | omega | with_unfolding_all rfl) [hl]
  by_cases hp4 : 400 < s.pls.length
  case pos =>
    have hp4' : (400 : Int) < s.pls.length := by omega
    simp (disch := first | omega | with_unfolding_all rfl) [hp4', known_ok]
  have hp4' : ¬ (400 : Int) < s.pls.length := by omega
  by_cases ha3 : 300 < acts.length
  case pos =>
    have ha3' : (300 : Int) < acts.length := by omega
    simp (disch := first | omega | with_unfolding_all rfl) [hp4', ha3', known_ok]
  have ha3' : ¬ (300 : Int) < acts.length := by omega
  have hv := validateSky_ok s hf hp (by omega) (by omega) hc
  simp only [vSk] at hv
  by_cases he : skyErr s = 0
  case neg => simp (disch := first | omega | with_unfolding_all rfl) [hp4', ha3', hv, he, known_ok]
  simp (disch := first | omega | with_unfolding_all rfl) [hp4', ha3', hv, he, -G_blk]
  rw [G_blk]
  refine G_loopK [2, 37, 38] (fun (k : Nat) e h => k ≤ acts.length ∧ get e 39 = .int .i64 (k : Int) ∧ ∃ s' : Sk, h = [skB s'] ∧ skyErr s' = 0 ∧ s'.fd.nl ≠ .bor ∧ s'.nlp ≠ .bor ∧ s'.fd.nodes.length ≤ 400 ∧ s'.pls.length ≤ 400 ∧ ∀ n ∈ s'.fd.nodes, n.on.length ≤ 400) (fun k => acts.length - k) (a₀ := 0) ⟨by omega, by simp, s, rfl, he, hf, hp, hb4, by omega, hc⟩ ?_
  clear hl hc hb4 hp4 hp4' hv he hf hp hb hpb h1
  rintro k e h hk ⟨hkl, g39, s', rfl, he, hf, hp, hb4, hp4, hc⟩
  simp at hk
  simp (disch := first | omega | with_unfolding_all rfl) [hk, g39, -G_blk]
  refine G_brd (fun d => ?_) (fun d => ?_)
  case refine_2 => simp (disch := first | omega | with_unfolding_all rfl) [d, known_ok]
  have hin : k < acts.length := by omega
  obtain ⟨a, ha⟩ : ∃ a, a = acts[k] := ⟨_, rfl⟩
  have hal2 := hax a (by rw [ha]; exact List.getElem_mem hin)
  simp (disch := first | omega | with_unfolding_all rfl) [d, -G_blk]
  rw [G_blk]
  simp (disch := first | omega | with_unfolding_all rfl) [hk, g39, d, ← ha, -G_blk]
  refine G_cut (fun e' h' => (get e' 2 = .mptr 0 0 0 ∧ get e' 6 = lst a.nl a.xs ∧ get e' 7 = .mptr 1 0 0 ∧ get e' 37 = lst nla acts ∧ get e' 38 = .int .i64 (acts.length : Int) ∧ get e' 39 = .int .i64 (k : Int)) ∧ ∃ (er : Int) (pl : List Pl) (now : Int) (nlD : Nl) (D : List Int) (nlp : Nl) (cs : List PV), get e' 8 = .int .i64 er ∧ get e' 9 = lst nlD D ∧ nlp ≠ .bor ∧ NxO s' a er pl now D ∧ h' = [skB s', ⟨31, 0, cs, none⟩] ∧ (er = 0 → cs = [lst .any (s'.fd.nodes.map cp), .int .i64 s'.fd.inn, lst nlp pl, .int .i64 now])) ?_ ?_
  · by_cases hl1 : a.xs.length = 1
    · obtain ⟨x, hx⟩ := List.length_eq_one_iff.1 hl1
      obtain ⟨nlx, xs⟩ := a
      dsimp only at hx hl1 hal2
      subst hx
      have harr := arrive_ok s' hf hp hb4 hp4 hc x
      simp only [vSk] at harr
      by_cases h0 : arrErr s' x = 0
      · have hN : NxO s' ⟨nlx, [x]⟩ 0 (s'.pls.set x.toNat (arrPl s' x.toNat)) s'.now [] := ⟨fun _ => arr_keeps h0, fun _ => by simp, fun _ c => absurd rfl c, fun _ y hy => by simp at hy, by simp⟩
        rw [h0] at harr
        simp at harr
        simp (disch := first | omega | with_unfolding_all rfl) [hk, g39, harr, vCp]
        exact ⟨_, _, .nil, [], rfl, .any, by decide, hN, rfl, rfl⟩
      · have hN : NxO s' ⟨nlx, [x]⟩ (arrErr s' x) [] 0 [] := ⟨fun c => absurd c h0, fun c => absurd c h0, fun c => absurd c h0, fun c => absurd c h0, by simp⟩
        rw [if_pos h0] at harr
        simp (disch := first | omega | with_unfolding_all rfl) [hk, g39, harr, vZ, h0]
        exact ⟨_, _, .nil, [], rfl, ⟨.any, by decide⟩, hN⟩
    by_cases hl2 : a.xs.length = 2
    · obtain ⟨x, w, hx⟩ : ∃ x w, a.xs = [x, w] := by
        obtain ⟨nlx, xs⟩ := a
        match xs, hl2 with
        | [x, w], _ => exact ⟨x, w, rfl⟩
      obtain ⟨nlx, xs⟩ := a
      dsimp only at hx hl1 hl2 hal2
      subst hx
      have hask := ask_ok s' hf hp hb4 hp4 hc x w
      simp only [vSk] at hask
      by_cases h0 : askE s' x w = 0
      · obtain ⟨k1, k2⟩ := ask_keeps h0
        have hN : NxO s' ⟨nlx, [x, w]⟩ 0 (s'.pls.set x.toNat (askPl s' x.toNat w)) s'.now [] := ⟨fun _ => k1, fun _ => by simp, fun _ _ i p q a b => .inl (k2 i p q a b), fun _ y hy => by simp at hy, by simp⟩
        rw [h0] at hask
        simp at hask
        simp (disch := first | omega | with_unfolding_all rfl) [hk, g39, hask, vCp]
        exact ⟨_, _, .nil, [], rfl, .any, by decide, hN, rfl, rfl⟩
      · have hN : NxO s' ⟨nlx, [x, w]⟩ (askE s' x w) [] 0 [] := ⟨fun c => absurd c h0, fun c => absurd c h0, fun c => absurd c h0, fun c => absurd c h0, by simp⟩
        rw [if_pos h0] at hask
        simp (disch := first | omega | with_unfolding_all rfl) [hk, g39, hask, vZ, h0]
        exact ⟨_, _, .nil, [], rfl, ⟨.any, by decide⟩, hN⟩
    have hl1' : ¬ (a.xs.length : Int) = 1 := by omega
    have hl2' : ¬ (a.xs.length : Int) = 2 := by omega
    by_cases hnw : s'.now < 1600000
    case neg =>
      have hst := step_err s' hf hp hb4 hp4 hc (.inr (by omega))
      simp only [vSk] at hst
      rw [if_neg (by simp [he])] at hst
      have hN : NxO s' a 10 [] 0 [] := ⟨fun c => (by cases c), fun c => (by cases c), fun c => (by cases c), fun c => (by cases c), by simp⟩
      simp (disch := first | omega | with_unfolding_all rfl) [hk, g39, hl1, hl2, hl1', hl2', hst]
      exact ⟨_, _, .nil, [], rfl, ⟨.any, by decide⟩, hN⟩
    obtain ⟨k1, k2, k3, k4⟩ := step_keeps he hnw
    by_cases hne : s'.pls = []
    · have hst := step0_ok s' hf hp hb4 hc he hnw hne
      simp only [vSk] at hst
      have hS0 : (stS s').1 = [] := by rw [hne] at k1; simpa using k1
      rw [hS0] at k1 k2 k3
      have hN : NxO s' a 0 [] (s'.now + 1) [] := ⟨fun _ => k2, fun _ => k1, fun _ _ => k3, fun _ y hy => by simp at hy, by simp⟩
      simp (disch := first | omega | with_unfolding_all rfl) [hk, g39, hl1, hl2, hl1', hl2', hst]
      exact ⟨[], _, .any, [], rfl, .nil, by decide, hN, rfl, rfl⟩
    · have hst := step_ok s' hf hp hb4 hp4 hc he hnw hne
      simp only [vSk] at hst
      have hol := (sortT_perm (since s'.pls) (ordN s'.pls s'.pls.length)).length_eq
      have hol2 := ordN_len s'.pls s'.pls.length
      have hdl : (stS s').2.length ≤ 400 := by
        have := stN_dl (s'.fd.nodes.map cp) s'.pls (ordS s'.pls) (ordS s'.pls).length
        show (stN (s'.fd.nodes.map cp) s'.pls (ordS s'.pls) (ordS s'.pls).length).2.length ≤ 400
        have : (ordS s'.pls).length ≤ 400 := by show (sortT (since s'.pls) (ordN s'.pls s'.pls.length)).length ≤ 400; omega
        omega
      have hN : NxO s' a 0 (stS s').1 (s'.now + 1) (stS s').2 := ⟨fun _ => k2, fun _ => k1, fun _ _ => k3, fun _ => k4, hdl⟩
      obtain ⟨pl, hpl⟩ : ∃ pl, pl = (stS s').1 := ⟨_, rfl⟩
      obtain ⟨D, hD⟩ : ∃ D, D = (stS s').2 := ⟨_, rfl⟩
      rw [← hpl, ← hD] at hst hN
      simp (disch := first | omega | with_unfolding_all rfl) [hk, g39, hl1, hl2, hl1', hl2', hst]
      exact ⟨_, _, .any, _, rfl, .any, by decide, hN, rfl, rfl⟩
  · rintro e' h' ⟨⟨g2, g6, g7, g37, g38, g39'⟩, er, pl, now, nlD, D, nlp, cs, g8, g9, hnp, hN, rfl, hcs⟩
    by_cases her : er = 0
    case neg =>
      simp (disch := first | omega | with_unfolding_all rfl) [g2, g8, g37, g38, g39', her]
      exact ⟨k + 1, by omega, by omega, by omega, s', ⟨rfl, rfl, rfl, rfl⟩, he, hf, hp, hb4, hp4, hc⟩
    subst her
    have hcs := hcs rfl
    subst hcs
    obtain ⟨q1, q2, q3, q4, q5⟩ := hN
    have q1 := q1 rfl
    have q2 := q2 rfl
    have q3 := q3 rfl
    have q4 := q4 rfl
    have hcm : ∀ n ∈ s'.fd.nodes.map cp, n.on.length ≤ 400 := by intro n hn; simp only [List.mem_map] at hn; obtain ⟨m, hm, rfl⟩ := hn; exact hc m hm
    have hv2 := validateSky_ok ⟨⟨.any, s'.fd.nodes.map cp, s'.fd.inn⟩, nlp, pl, now⟩ (by simp) hnp (by simp; omega) (by dsimp only; omega) hcm
    have hv3 : skyErr ⟨⟨.any, s'.fd.nodes.map cp, s'.fd.inn⟩, nlp, pl, now⟩ = 0 := q1
    rw [hv3] at hv2
    simp only [vSk] at hv2
    have hsf := sameField_ok ⟨.any, s'.fd.nodes.map cp, s'.fd.inn⟩ s'.fd (by simp) hf rfl ⟨by simp, fun i h h' => by simp [cp]⟩ (by simp; omega) hcm
    simp only [vFd] at hsf
    have hq2 : (pl.length : Int) = s'.pls.length := by omega
    simp (disch := first | omega | with_unfolding_all rfl) [g2, g6, g7, g8, g9, g37, g38, g39', hv2, hq2, hsf]
    have hkl2 : pl.length = s'.pls.length := q2
    refine G_loopK [2, 6, 7, 9, 37, 38, 39, 100, 101] (fun (j : Nat) e h => j ≤ pl.length ∧ get e 102 = .int .i64 (j : Int) ∧ h = [skB s', ⟨31, 0, [lst .any (s'.fd.nodes.map cp), .int .i64 s'.fd.inn, lst nlp pl, .int .i64 now], none⟩]) (fun j => pl.length - j) (a₀ := 0) ⟨by omega, by simp, rfl⟩ ?_
    rintro j e2 h hk2 ⟨hj, g102, rfl⟩
    simp at hk2
    simp (disch := first | omega | with_unfolding_all rfl) [hk2, g102]
    refine G_brd (fun d2 => ?_) (fun d2 => ?_)
    · have hjn : j < pl.length := by omega
      have hjs : j < s'.pls.length := by omega
      obtain ⟨p, hpp⟩ : ∃ p, p = pl[j] := ⟨_, rfl⟩
      obtain ⟨q, hqq⟩ : ∃ q, q = s'.pls[j] := ⟨_, rfl⟩
      have hmv := fun c => q3 c j p q (by rw [hpp]; exact List.getElem?_eq_getElem hjn) (by rw [hqq]; exact List.getElem?_eq_getElem hjs)
      have hsn := (skyErr_sane he).1 q (by rw [hqq]; exact List.getElem_mem hjs)
      have hp0 := hsn.p0
      have hp1 := hsn.p1
      simp (disch := first | omega | with_unfolding_all rfl) [hk2, g102, d2, ← hpp, ← hqq]
      by_cases hl1 : a.xs.length = 1
      · have hl1' : (a.xs.length : Int) = 1 := by omega
        simp (disch := first | omega | with_unfolding_all rfl) [hk2, g102, hl1, hl1']
        exact ⟨j + 1, by omega, by omega, by omega⟩
      · have hl1' : ¬ (a.xs.length : Int) = 1 := by omega
        by_cases hpe : p.pos = q.pos
        · simp (disch := first | omega | with_unfolding_all rfl) [hk2, g102, hl1, hl1', hpe]
          exact ⟨j + 1, by omega, by omega, by omega⟩
        rcases (hmv hl1).resolve_left hpe with ⟨m1, m2, m3, m4⟩ | ⟨m1, m2, m3⟩
        · have hqn : q.pos.toNat < s'.fd.nodes.length := by omega
          have hqk : s'.fd.nodes[q.pos.toNat].kind = 0 := by rw [kd_sym hqn]; exact m4
          have hqp : ¬ (-1 : Int) = q.pos := by omega
          simp (disch := first | omega | with_unfolding_all rfl) [hk2, g102, hl1, hl1', m1, m2, hqp, hqk]
          exact ⟨j + 1, by omega, by omega, by omega⟩
        · have hpm : ¬ p.pos = -1 := by omega
          have hq0 : ¬ q.pos < 0 := by omega
          have hp0' : ¬ p.pos < 0 := by omega
          have hon := on_ok s'.fd hf hb4 hc q.pos p.pos (by omega) (by omega)
          simp only [vFd] at hon
          simp (disch := first | omega | with_unfolding_all rfl) [hk2, g102, hl1, hl1', hpe, hpm, hq0, hp0', hon, m3]
          exact ⟨j + 1, by omega, by omega, by omega⟩
    · have ej : j = pl.length := by omega
      simp (disch := first | omega | with_unfolding_all rfl) [hk2, g102, d2]
      refine G_loopK [2, 7, 37, 38, 39, 165, 166] (fun (j : Nat) e h => j ≤ D.length ∧ get e 167 = .int .i64 (j : Int) ∧ h = [skB s', ⟨31, 0, [lst .any (s'.fd.nodes.map cp), .int .i64 s'.fd.inn, lst nlp pl, .int .i64 now], none⟩]) (fun j => D.length - j) (a₀ := 0) ⟨by omega, by simp, rfl⟩ ?_
      clear hk2 g102 d2 ej hj e2
      rintro j2 e2 h hk2 ⟨hj2, g167, rfl⟩
      simp at hk2
      simp (disch := first | omega | with_unfolding_all rfl) [hk2, g167]
      refine G_brd (fun d2 => ?_) (fun d2 => ?_)
      · have hjn : j2 < D.length := by omega
        obtain ⟨x, hxx⟩ : ∃ x, x = D[j2] := ⟨_, rfl⟩
        obtain ⟨i, p, q, hxi, hpi, hqi, w0, w1, w2⟩ := q4 x (by rw [hxx]; exact List.getElem_mem hjn)
        obtain ⟨hil, hgp⟩ := List.getElem?_eq_some_iff.1 hpi
        obtain ⟨hil2, hgq⟩ := List.getElem?_eq_some_iff.1 hqi
        have x0 : ¬ (i : Int) < 0 := by omega
        have x1 : ¬ (s'.pls.length : Int) ≤ (i : Int) := by omega
        simp (disch := first | omega | with_unfolding_all rfl) [hk2, g167, d2, ← hxx, hxi, x0, x1]
        refine G_reg_chk ?_ ?_
        · refine all_cons_ck (ckOne_of rfl ?_) (all_cons_ck (ckOne_of rfl ?_) (all_cons_ck (ckOne_of rfl ?_) (all_cons_ck (ckOne_of rfl ?_) (all_cons_ck (ckOne_of rfl ?_) (all_cons_ck (ckOne_of rfl ?_) (all_cons_ck (ckOne_of rfl ?_) (all_cons_ck (ckOne_of rfl ?_) all_nil_ck)))))))
          all_goals simp (disch := first | omega | with_unfolding_all rfl) [hk2, g167, hgp, hgq]
        simp (disch := first | omega | with_unfolding_all rfl) [hk2, g167, hgp, hgq]
        have hsp := (skyErr_sane hv3).1 p (List.mem_of_getElem? hpi)
        have hp1 := hsp.p1
        simp at hp1
        by_cases c1 : q.wish = 1
        · obtain ⟨v1, v2⟩ := w1 c1
          have hpn : p.pos.toNat < s'.fd.nodes.length := by omega
          have hpk : s'.fd.nodes[p.pos.toNat].kind = 3 := by rw [kd_sym hpn]; exact v2
          have hmx : ¬ p.pos < 0 := by omega
          have hml : (List.map cp s'.fd.nodes).length = s'.fd.nodes.length := List.length_map ..
          simp (disch := first | omega | with_unfolding_all rfl) [hk2, g167, w0, c1, hmx, hpk, cp]
          exact ⟨j2 + 1, by omega, by omega, by omega⟩
        · by_cases c2 : q.wish = 2
          · have v := w2 c2
            simp (disch := first | omega | with_unfolding_all rfl) [hk2, g167, w0, c1, c2, v]
            exact ⟨j2 + 1, by omega, by omega, by omega⟩
          · simp (disch := first | omega | with_unfolding_all rfl) [hk2, g167, w0, c1, c2]
            exact ⟨j2 + 1, by omega, by omega, by omega⟩
      · simp (disch := first | omega | with_unfolding_all rfl) [hk2, g167, d2]
        exact ⟨k + 1, by omega, by omega, by omega, ⟨⟨.any, s'.fd.nodes.map cp, s'.fd.inn⟩, nlp, pl, now⟩, ⟨rfl, rfl, rfl, rfl⟩, hv3, by simp, hnp, by simp; omega, by dsimp only; omega, hcm⟩
end Go.Proofs.Ytmbknidfkddpfaa
