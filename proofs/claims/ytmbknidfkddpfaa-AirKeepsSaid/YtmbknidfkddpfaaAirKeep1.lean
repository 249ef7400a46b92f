/- Airports: what a tick keeps, the plain law. -/
import Derived.Test.YtmbknidfkddpfaaAirStep3
import Derived.Test.YtmbknidfkddpfaaAirLeast
set_option linter.unusedVariables false
set_option linter.unusedSimpArgs false
set_option maxHeartbeats 4000000
set_option maxRecDepth 20000
namespace Go.Proofs.Ytmbknidfkddpfaa
open Go.Proofs.Ytmbknidfkddpfaa.PM

theorem kd_cp (ns : List Nd) (k : Nat) : kd (ns.map cp) k = kd ns k := by
  unfold kd
  rw [List.getElem?_map]
  cases ns[k]? <;> rfl
theorem onOf_cp (ns : List Nd) : onOf (ns.map cp) = onOf ns := by
  funext k
  unfold onOf
  rw [List.getElem?_map]
  cases ns[k]? <;> rfl
theorem fieldErr_cp (nl nl' : Nl) (ns : List Nd) (inn : Int) : fieldErr ⟨nl', ns.map cp, inn⟩ = fieldErr ⟨nl, ns, inn⟩ := by
  have h1 : badNd (ns.map cp) = badNd ns := by
    funext k
    unfold badNd
    rw [List.getElem?_map]
    cases ns[k]? <;> rfl
  have h2 : outNd (ns.map cp) = outNd ns := by
    funext k
    unfold outNd
    rw [List.getElem?_map, List.length_map]
    cases ns[k]? <;> rfl
  have h3 : badIn (ns.map cp) inn = badIn ns inn := by
    unfold badIn
    rw [List.getElem?_map, List.length_map]
    cases ns[inn.toNat]? <;> rfl
  unfold fieldErr
  simp only [h1, h2, h3, List.length_map]
def onHit (os : List Int) (b : Int) (j : Nat) : Bool := match os[j]? with | some o => decide (o = b) | none => false
theorem onHit_mem (os : List Int) (b : Int) : anyN (onHit os b) 0 os.length = decide (b ∈ os) := by
  by_cases h : b ∈ os
  · rw [decide_eq_true h]
    obtain ⟨j, hj, rfl⟩ := List.getElem_of_mem h
    exact anyN_t (Nat.zero_le j) hj (by simp [onHit, hj])
  · rw [decide_eq_false h]
    refine anyN_f fun j _ hj => ?_
    simp only [onHit, List.getElem?_eq_getElem hj, decide_eq_false_iff_not]
    rintro rfl
    exact h (List.getElem_mem hj)
theorem on_ok (f : Fd) (hf : f.nl ≠ .bor) (hb : f.nodes.length ≤ 400) (hc : ∀ n ∈ f.nodes, n.on.length ≤ 400) (a b : Int) (h0 : 0 ≤ a) (h1 : a < f.nodes.length) : R tb 34 [vFd f, .int .i64 a, .int .i64 b] = some (.bool (decide (b ∈ onOf f.nodes a.toNat))) := by
  have hm : maxLen = 9223372036854775807 := rfl
  have hl : a.toNat < f.nodes.length := by omega
  have hon := hc _ (List.getElem_mem hl)
  rw [on_eq hl, ← onHit_mem]
  refine R_of_G (F := pf34) rfl rfl rfl ?_
  simp (disch := first | omega | with_unfolding_all rfl) [pf34, env0_eq]
  refine G_scanC [2, 14, 15] 16 (onHit f.nodes[a.toNat].on b) f.nodes[a.toNat].on.length 0 (by simp) (Nat.zero_le _) ?_
  rintro i e - hi hz hk hci
  simp at hk
  simp (disch := first | omega | with_unfolding_all rfl) [hk, hci]
  refine G_brd (fun h2 => ?_) (fun h2 => ?_)
  · simp (disch := first | omega | with_unfolding_all rfl) [h2]
    refine G_brd (fun h3 => ?_) (fun h3 => ?_)
    · have hh : onHit f.nodes[a.toNat].on b i = true := by simp [onHit, h2, h3]
      have hn := anyN_t (Nat.zero_le i) h2 hh
      simp (disch := first | omega | with_unfolding_all rfl) [h3, hn]
    · have hh : onHit f.nodes[a.toNat].on b i = false := by simp [onHit, h2, h3]
      simp (disch := first | omega | with_unfolding_all rfl) [h3, hh, h2]
  · have hn : anyN (onHit f.nodes[a.toNat].on b) 0 f.nodes[a.toNat].on.length = false := anyN_cut hz (by omega)
    simp (disch := first | omega | with_unfolding_all rfl) [h2, hn]

theorem wayX_next {ns : List Nd} (hr : ∀ k, k < ns.length → ∀ o ∈ onOf ns k, 0 ≤ o ∧ o < ns.length) {a w : Nat} {fr : Nat → Bool} (ha : a < ns.length) (hw : w ≠ 0) (he : ¬ endB w (kd ns a) = true) (hx : (wayX ns a w fr).2 = true) :
    0 ≤ (wayX ns a w fr).1.getD 1 0 ∧ (wayX ns a w fr).1.getD 1 0 < ns.length ∧ (wayX ns a w fr).1.getD 1 0 ∈ onOf ns a ∧ fr ((wayX ns a w fr).1.getD 1 0).toNat = true := by
  have hi : Inv (onOf ns) ns.length ns.length (cnt ns a w fr ns.length) := inv_rss _
  have hla : a < (cnt ns a w fr ns.length).length := by rw [hi.len]; exact ha
  have hfin : fin ns a w fr = (cnt ns a w fr ns.length)[a] := by
    unfold fin
    simp only [List.getD_eq_getElem?_getD, List.getElem?_eq_getElem hla, Option.getD_some]
  unfold wayX at hx ⊢
  rw [if_neg (by rintro (q | q); exact hw q; exact he q)] at hx ⊢
  split at hx
  · cases hx
  rename_i hf
  rw [if_neg hf]
  have hne : fin ns a w fr ≠ 0 := by
    intro q
    have hz := (rss_end (z := zed ns a w fr) (th := thr ns a fr) (N := ns.length) ns.length a _ (List.getElem?_eq_getElem hla)).1 (by rw [← hfin]; exact q)
    rw [zed_eq, Bool.and_eq_true] at hz
    exact he hz.1
  obtain ⟨n, hn⟩ : ∃ n : Nat, fin ns a w fr = n + 1 := ⟨(fin ns a w fr - 1).toNat, by omega⟩
  have hnx := nxt_ex (hi.nx a _ (List.getElem?_eq_getElem hla) (by rw [← hfin]; omega))
  rw [← hfin, hn, show ((n : Int) + 1 - 1) = n by omega] at hnx
  have hg : (wayL ns a w fr).getD 1 0 = nxt (cnt ns a w fr ns.length) (onOf ns a) n := by
    unfold wayL
    rw [hn, show ((n : Int) + 1).toNat = n + 1 by omega]
    rfl
  show 0 ≤ (wayL ns a w fr).getD 1 0 ∧ _
  rw [hg]
  obtain ⟨x, hxx⟩ : ∃ x, x = nxt (cnt ns a w fr ns.length) (onOf ns a) n := ⟨_, rfl⟩
  rw [← hxx] at hnx ⊢
  have hro := hr a ha x hnx.1
  refine ⟨hro.1, hro.2, hnx.1, ?_⟩
  have hne2 : x.toNat ≠ a := fun q => by
    have h1 := hnx.2
    rw [q, List.getElem?_eq_getElem hla, Option.some.injEq, ← hfin, hn] at h1
    omega
  have hend := rss_end (z := zed ns a w fr) (th := thr ns a fr) (N := ns.length) ns.length x.toNat _ hnx.2
  by_cases h0 : n = 0
  · have h1 := hend.1 (by omega)
    rw [zed_eq, Bool.and_eq_true, Bool.or_eq_true, decide_eq_true_eq] at h1
    exact h1.2.resolve_right hne2
  · have h1 := hend.2 (by omega)
    unfold thr at h1
    rw [Bool.or_eq_true, decide_eq_true_eq, Bool.and_eq_true] at h1
    exact (h1.resolve_left (by omega)).1
/-- No two planes are at one node that is no stack. -/
def Apart (ns : List Nd) (pl : List Pl) : Prop := ∀ (i j : Nat) (p q : Pl), pl[i]? = some p → pl[j]? = some q → i ≠ j → 0 ≤ p.pos → p.pos = q.pos → kd ns p.pos.toNat = 0
/-- What holds behind the first turns: P tells whose turn it was. -/
structure Kp (ns : List Nd) (now : Int) (pl : List Pl) (P : Nat → Prop) (st : List Pl × List Int) : Prop where
  len : st.1.length = pl.length
  sane : ∀ p ∈ st.1, Sane ns p ∧ p.since ≤ now
  free : Apart ns st.1
  old : ∀ i, ¬ P i → st.1[i]? = pl[i]?
  mv : ∀ (i : Nat) (p q : Pl), st.1[i]? = some p → pl[i]? = some q → p.pos = q.pos ∨ (p.pos = -1 ∧ q.wish = 2 ∧ 0 ≤ q.pos ∧ kd ns q.pos.toNat = 0) ∨ (0 ≤ q.pos ∧ 0 ≤ p.pos ∧ p.pos ∈ onOf ns q.pos.toNat)
  dn : ∀ x ∈ st.2, ∃ (i : Nat) (p q : Pl), x = (i : Int) ∧ P i ∧ st.1[i]? = some p ∧ pl[i]? = some q ∧ p.wish = 0 ∧ (q.wish = 1 → 0 ≤ p.pos ∧ kd ns p.pos.toNat = 3) ∧ (q.wish = 2 → p.pos = -1)
theorem turn_pos {ns : List Nd} (hr : ∀ k, k < ns.length → ∀ o ∈ onOf ns k, 0 ≤ o ∧ o < ns.length) {pl1 : List Pl} {p : Pl} (h : Sane ns p) (h0 : 0 ≤ p.pos) :
    Sane ns (turnP ns pl1 p).1 ∧ (turnP ns pl1 p).1.since = p.since ∧
    (((turnP ns pl1 p).1.pos = p.pos) ∨ ((turnP ns pl1 p).1.pos = -1 ∧ p.wish = 2 ∧ kd ns p.pos.toNat = 0) ∨ (0 ≤ (turnP ns pl1 p).1.pos ∧ (turnP ns pl1 p).1.pos ∈ onOf ns p.pos.toNat ∧ freeAt ns pl1 (turnP ns pl1 p).1.pos.toNat = true)) ∧
    ((turnP ns pl1 p).2 = true → (turnP ns pl1 p).1.wish = 0 ∧ (p.wish = 1 → (turnP ns pl1 p).1.pos = p.pos ∧ kd ns p.pos.toNat = 3) ∧ (p.wish = 2 → (turnP ns pl1 p).1.pos = -1)) := by
  have hs := h
  obtain ⟨k0, k1, k2, k3, k4, k5, k6, k7, k8, k9⟩ := h
  unfold turnP
  split
  · exact ⟨hs, rfl, .inl rfl, fun q => by cases q⟩
  rename_i hc
  split
  · rename_i he
    unfold endB at he
    rw [decide_eq_true_eq] at he
    dsimp only
    refine ⟨⟨by dsimp only; split <;> omega, by dsimp only; split <;> omega, by dsimp only; omega, by dsimp only; omega, k4, k5, k6, k7, k8, k9⟩, rfl, ?_, fun _ => ⟨rfl, fun hw => ?_, fun hw => ?_⟩⟩
    · by_cases hw : p.wish = 2
      · rw [if_pos hw]
        rcases he with ⟨_, he⟩ | ⟨he, _⟩
        · exact .inr (.inl ⟨rfl, hw, he⟩)
        · omega
      · rw [if_neg hw]; exact .inl rfl
    · rw [if_neg (by omega)]
      refine ⟨rfl, ?_⟩
      rcases he with ⟨he, _⟩ | ⟨_, he⟩
      · omega
      · exact he
    · rw [if_pos hw]
  rename_i he
  split
  · rename_i hx
    obtain ⟨n1, n2, n3, n4⟩ := wayX_next hr (by omega) (by omega) he hx
    dsimp only
    exact ⟨⟨by dsimp only; omega, by dsimp only; omega, k2, k3, k4, k5, by dsimp only; omega, by dsimp only; omega, k8, k9⟩, rfl, .inr (.inr ⟨n1, n3, n4⟩), fun q => by cases q⟩
  · exact ⟨hs, rfl, .inl rfl, fun q => by cases q⟩
theorem free_at {ns : List Nd} {pl : List Pl} {k : Nat} (h : freeAt ns pl k = true) {j : Nat} {q : Pl} (hj : pl[j]? = some q) (hq : q.pos = (k : Int)) : kd ns k = 0 := by
  unfold freeAt at h
  rw [Bool.or_eq_true, decide_eq_true_eq] at h
  rcases h with h | h
  · exact h
  · exfalso
    have hl := (List.getElem?_eq_some_iff.1 hj).1
    have := anyN_off (by simpa using h) (Nat.zero_le j) hl
    unfold hitK at this
    rw [hj] at this
    simp [hq] at this
theorem Kp.step {ns : List Nd} {now : Int} (hr : ∀ k, k < ns.length → ∀ o ∈ onOf ns k, 0 ≤ o ∧ o < ns.length) {pl : List Pl} {P : Nat → Prop} {st : List Pl × List Int} (h : Kp ns now pl P st) {i : Nat} (hi : ¬ P i) {q : Pl} (hq : pl[i]? = some q) (h0 : 0 ≤ q.pos) :
    Kp ns now pl (fun k => P k ∨ k = i) (turn ns st i) := by
  have hsi : st.1[i]? = some q := by rw [h.old i hi]; exact hq
  have hil := (List.getElem?_eq_some_iff.1 hsi).1
  obtain ⟨hsq, hnow⟩ := h.sane q (List.mem_of_getElem? hsi)
  have hsl := sane_less hsq
  obtain ⟨pl1, hpl1⟩ : ∃ pl1, pl1 = st.1.set i (less1 q) := ⟨_, rfl⟩
  obtain ⟨t1, t2, t3, t4⟩ := turn_pos hr (pl1 := pl1) hsl (show 0 ≤ (less1 q).pos from h0)
  have hT : turn ns st i = (st.1.set i (turnP ns pl1 (less1 q)).1, if (turnP ns pl1 (less1 q)).2 = true then st.2 ++ [(i : Int)] else st.2) := by
    unfold turn
    rw [hsi]
    dsimp only
    rw [← hpl1, hpl1, List.set_set]
  obtain ⟨T, hTT⟩ : ∃ T, T = turnP ns pl1 (less1 q) := ⟨_, rfl⟩
  rw [← hTT] at t1 t2 t3 t4 hT
  rw [hT]
  have hlp : (less1 q).pos = q.pos := rfl
  have hlw : (less1 q).wish = q.wish := rfl
  have hls : (less1 q).since = q.since := rfl
  rw [hlp, hlw] at t3 t4
  rw [hls] at t2
  have hget : ∀ j, (st.1.set i T.1)[j]? = if j = i then some T.1 else st.1[j]? := fun j => by
    by_cases e : j = i
    · subst e; rw [if_pos rfl, List.getElem?_set_self hil]
    · rw [if_neg e, List.getElem?_set_ne (fun c => e c.symm)]
  have hoth : ∀ (j : Nat) (p : Pl), j ≠ i → st.1[j]? = some p → 0 ≤ T.1.pos → p.pos = T.1.pos → kd ns T.1.pos.toNat = 0 := by
    intro j p hj hp h1 h2
    rcases t3 with t3 | ⟨t3, _⟩ | ⟨_, _, t3⟩
    · rw [t3]
      exact h.free i j q p hsi hp (fun c => hj c.symm) h0 (by omega)
    · omega
    · refine free_at t3 (j := j) (q := p) ?_ (by omega)
      rw [hpl1, List.getElem?_set_ne (fun c => hj c.symm)]; exact hp
  refine ⟨by simpa using h.len, fun p hp => ?_, fun a b p p' ha hb hab hp0 hpp => ?_, fun j hj => ?_, fun j p q' hp hq' => ?_, fun x hx => ?_⟩
  · rcases List.mem_or_eq_of_mem_set hp with hp | rfl
    · exact h.sane p hp
    · exact ⟨t1, by omega⟩
  · dsimp only at ha hb
    rw [hget] at ha hb
    by_cases ea : a = i
    · rw [if_pos ea, Option.some.injEq] at ha
      subst ha
      rw [if_neg (by omega)] at hb
      exact hoth b p' (by omega) hb hp0 hpp.symm
    · rw [if_neg ea] at ha
      by_cases eb : b = i
      · rw [if_pos eb, Option.some.injEq] at hb
        subst hb
        rw [hpp]
        exact hoth a p ea ha (by omega) hpp
      · rw [if_neg eb] at hb
        exact h.free a b p p' ha hb hab hp0 hpp
  · dsimp only
    rw [hget, if_neg (fun e => hj (.inr e))]
    exact h.old j fun c => hj (.inl c)
  · dsimp only at hp
    rw [hget] at hp
    by_cases e : j = i
    · rw [if_pos e, Option.some.injEq] at hp
      subst hp
      subst e
      rw [hq, Option.some.injEq] at hq'
      subst hq'
      rcases t3 with t3 | ⟨t3, t5, t6⟩ | ⟨t3, t5, _⟩
      · exact .inl t3
      · exact .inr (.inl ⟨t3, t5, h0, t6⟩)
      · exact .inr (.inr ⟨h0, t3, t5⟩)
    · rw [if_neg e] at hp
      exact h.mv j p q' hp hq'
  · have old : x ∈ st.2 → ∃ (k : Nat) (p q : Pl), x = (k : Int) ∧ (P k ∨ k = i) ∧ (st.1.set i T.1)[k]? = some p ∧ pl[k]? = some q ∧ p.wish = 0 ∧ (q.wish = 1 → 0 ≤ p.pos ∧ kd ns p.pos.toNat = 3) ∧ (q.wish = 2 → p.pos = -1) := fun hx => by
      obtain ⟨k, p, q', a1, a2, a3, a4, a5⟩ := h.dn x hx
      refine ⟨k, p, q', a1, .inl a2, ?_, a4, a5⟩
      rw [hget, if_neg (show ¬ k = i from fun e => hi (by rw [← e]; exact a2))]
      exact a3
    dsimp only at hx ⊢
    split at hx
    · rename_i c
      rw [List.mem_append, List.mem_singleton] at hx
      rcases hx with hx | hx
      · exact old hx
      · obtain ⟨b1, b2, b3⟩ := t4 c
        refine ⟨i, T.1, q, hx, .inr rfl, by rw [hget, if_pos rfl], hq, b1, fun hw => ?_, b3⟩
        obtain ⟨b4, b5⟩ := b2 hw
        rw [b4]; exact ⟨h0, b5⟩
    · exact old hx
theorem Kp.all {ns : List Nd} {now : Int} (hr : ∀ k, k < ns.length → ∀ o ∈ onOf ns k, 0 ≤ o ∧ o < ns.length) {pl : List Pl} (hs : ∀ p ∈ pl, Sane ns p ∧ p.since ≤ now) (hf : Apart ns pl) {O : List Int} (hn : O.Nodup) (ho : ∀ x ∈ O, ∃ (i : Nat) (q : Pl), x = (i : Int) ∧ pl[i]? = some q ∧ 0 ≤ q.pos) :
    ∀ j, j ≤ O.length → Kp ns now pl (fun k => ∃ m, m < j ∧ O[m]? = some (k : Int)) (stN ns pl O j)
  | 0, _ => ⟨rfl, hs, hf, fun _ _ => rfl, fun i p q h1 h2 => by
      have : (stN ns pl O 0).1 = pl := rfl
      rw [this, h2, Option.some.injEq] at h1
      exact .inl (by rw [h1]), fun x hx => by simp [stN] at hx⟩
  | j + 1, hj => by
    have ih := Kp.all hr hs hf hn ho j (by omega)
    have hjl : j < O.length := by omega
    obtain ⟨i, q, hx, hq, h0⟩ := ho O[j] (List.getElem_mem hjl)
    have hO : O[j]? = some (i : Int) := by rw [List.getElem?_eq_getElem hjl, hx]
    have hst : stN ns pl O (j + 1) = turn ns (stN ns pl O j) i := by
      simp only [stN, hO]
      rfl
    rw [hst]
    have hni : ¬ ∃ m, m < j ∧ O[m]? = some (i : Int) := by
      rintro ⟨m, hm, hm2⟩
      have h1 := List.getElem?_eq_some_iff.1 hm2
      have h2 := (List.getElem_inj (h₀ := h1.1) (h₁ := hjl) hn).1 (by rw [h1.2, hx])
      omega
    have hk := ih.step hr hni hq h0
    have hP : (fun k : Nat => (∃ m, m < j ∧ O[m]? = some (k : Int)) ∨ k = i) = (fun k : Nat => ∃ m, m < j + 1 ∧ O[m]? = some (k : Int)) := by
      funext k
      apply propext
      constructor
      · rintro (⟨m, a, b⟩ | rfl)
        · exact ⟨m, by omega, b⟩
        · exact ⟨j, by omega, hO⟩
      · rintro ⟨m, a, b⟩
        by_cases e : m = j
        · subst e
          right
          rw [hO, Option.some.injEq] at b
          omega
        · exact .inl ⟨m, by omega, b⟩
    rw [← hP]
    exact hk
theorem ordS_ok (pl : List Pl) : (ordS pl).Nodup ∧ ∀ x ∈ ordS pl, ∃ (i : Nat) (q : Pl), x = (i : Int) ∧ pl[i]? = some q ∧ 0 ≤ q.pos := by
  have hp := sortT_perm (since pl) (ordN pl pl.length)
  refine ⟨hp.nodup_iff.2 ((ordN_pair pl pl.length).imp fun h => by omega), fun x hx => ?_⟩
  obtain ⟨h1, h2, p, h3, h4⟩ := ordN_lt pl pl.length x (hp.mem_iff.1 hx)
  exact ⟨x.toNat, p, by omega, h3, h4⟩
theorem skyErr_apart {s : Sk} (h : skyErr s = 0) : Apart s.fd.nodes s.pls ∧ ∀ p ∈ s.pls, p.since ≤ s.now := by
  unfold skyErr at h
  split at h
  · rename_i q; exact absurd h q
  split at h
  · cases h
  split at h
  · cases h
  split at h
  · cases h
  rename_i q3
  split at h
  · cases h
  split at h
  · cases h
  rename_i q5
  have key : ∀ (i j : Nat) (p q : Pl), s.pls[i]? = some p → s.pls[j]? = some q → j < i → 0 ≤ p.pos → p.pos = q.pos → kd s.fd.nodes p.pos.toNat = 0 := by
    intro i j p q hi hj hji h0 he
    have hil := (List.getElem?_eq_some_iff.1 hi).1
    have h1 := anyN_off (Bool.eq_false_iff.2 q5) (Nat.zero_le i) hil
    unfold takenPl at h1
    rw [hi] at h1
    have h2 := anyN_off h1 (Nat.zero_le j) hji
    unfold hitPl at h2
    rw [hj] at h2
    simp only [decide_eq_false_iff_not] at h2
    apply Decidable.byContradiction
    intro hk
    exact h2 ⟨h0, he, hk⟩
  refine ⟨fun i j p q hi hj hij h0 he => ?_, fun p hp => ?_⟩
  · rcases Nat.lt_or_gt_of_ne hij with c | c
    · rw [he]
      exact key j i q p hj hi c (by omega) he.symm
    · exact key i j p q hi hj c h0 he
  · obtain ⟨i, hi, rfl⟩ := List.getElem_of_mem hp
    have h3 := anyN_off (Bool.eq_false_iff.2 q3) (Nat.zero_le i) hi
    simp only [badPl, List.getElem?_eq_getElem hi, decide_eq_false_iff_not] at h3
    omega
theorem skyErr_of {s : Sk} (h0 : fieldErr s.fd = 0) (h1 : s.pls.length ≤ 40) (h2 : 0 ≤ s.now ∧ s.now ≤ 1600000) (h3 : ∀ p ∈ s.pls, Sane s.fd.nodes p ∧ p.since ≤ s.now) (h4 : Apart s.fd.nodes s.pls) : skyErr s = 0 := by
  unfold skyErr
  have e1 : anyN (badPl s.now s.pls) 0 s.pls.length = false := anyN_f fun i _ hi => by
    obtain ⟨⟨k0, k1, k2, k3, k4, k5, k6, k7, k8, k9⟩, k10⟩ := h3 _ (List.getElem_mem hi)
    simp only [badPl, List.getElem?_eq_getElem hi, decide_eq_false_iff_not]
    omega
  have e2 : anyN (outPl s.fd.nodes.length s.pls) 0 s.pls.length = false := anyN_f fun i _ hi => by
    obtain ⟨⟨k0, k1, k2, k3, k4, k5, k6, k7, k8, k9⟩, k10⟩ := h3 _ (List.getElem_mem hi)
    simp only [outPl, List.getElem?_eq_getElem hi, decide_eq_false_iff_not]
    omega
  have e3 : anyN (takenPl s.fd.nodes s.pls) 0 s.pls.length = false := anyN_f fun i _ hi => by
    simp only [takenPl, List.getElem?_eq_getElem hi]
    refine anyN_f fun j _ hj => ?_
    have hjl : j < s.pls.length := by omega
    simp only [hitPl, List.getElem?_eq_getElem hjl, decide_eq_false_iff_not]
    rintro ⟨a, b, c⟩
    exact c (h4 i j _ _ (List.getElem?_eq_getElem hi) (List.getElem?_eq_getElem hjl) (by omega) a b)
  rw [if_neg (by simp [h0]), if_neg (by omega), if_neg (by omega), e1, e2, e3]
  rfl
end Go.Proofs.Ytmbknidfkddpfaa
