/- Airports: a tick of the program. -/
import Derived.Test.YtmbknidfkddpfaaAirStep2
set_option linter.unusedVariables false
set_option linter.unusedSimpArgs false
set_option maxHeartbeats 4000000
set_option maxRecDepth 20000
namespace Go.Proofs.Ytmbknidfkddpfaa
open Go.Proofs.Ytmbknidfkddpfaa.PM

theorem ends_int (H : Hp) (k w : Int) (hw : 0 ≤ w) : evInv (R tb) fzB mth H "hinterland/air.ends" (vNode k) [.int .i64 w] = some (.bool (endB w.toNat k)) := by
  have := ends_nat H k w.toNat
  rwa [show ((w.toNat : Nat) : Int) = w by omega] at this
theorem nck_node (k : Int) : evNckS mth (.clo (.method "hinterland/air.ends") [vNode k] []) = some (.clo (.method "hinterland/air.ends") [vNode k] []) := by
  unfold vNode
  split
  · exact evNckS_meth (by decide)
  · exact evNckS_meth (by decide)
abbrev ordS (pl : List Pl) : List Int := sortT (since pl) (ordN pl pl.length)
theorem skyErr_sane {s : Sk} (h : skyErr s = 0) : (∀ p ∈ s.pls, Sane s.fd.nodes p) ∧ 0 ≤ s.now ∧ s.now ≤ 1600000 ∧ s.pls.length ≤ 40 ∧ fieldErr s.fd = 0 := by
  unfold skyErr at h
  split at h
  · rename_i q; exact absurd h q
  rename_i q0
  split at h
  · cases h
  split at h
  · cases h
  rename_i q1 q2
  split at h
  · cases h
  rename_i q3
  split at h
  · cases h
  rename_i q4
  refine ⟨fun p hp => ?_, by omega, by omega, by omega, by simpa using q0⟩
  obtain ⟨i, hi, rfl⟩ := List.getElem_of_mem hp
  have h3 := anyN_off (Bool.eq_false_iff.2 q3) (Nat.zero_le i) hi
  have h4 := anyN_off (Bool.eq_false_iff.2 q4) (Nat.zero_le i) hi
  simp only [badPl, outPl, List.getElem?_eq_getElem hi, decide_eq_false_iff_not] at h3 h4
  refine ⟨?_, ?_, ?_, ?_, ?_, ?_, ?_, ?_, ?_, ?_⟩ <;> omega
theorem step_ok (s : Sk) (hf : s.fd.nl ≠ .bor) (hp : s.nlp ≠ .bor) (hb : s.fd.nodes.length ≤ 400) (hpb : s.pls.length ≤ 400) (hc : ∀ n ∈ s.fd.nodes, n.on.length ≤ 400) (he : skyErr s = 0) (hnow : s.now < 1600000) (hne : s.pls ≠ []) :
    R tb 19 [vSk s] = some (.tup [.agg [lst .any (s.fd.nodes.map cp), .int .i64 s.fd.inn, lst .any (stN (s.fd.nodes.map cp) s.pls (ordS s.pls) (ordS s.pls).length).1, .int .i64 (s.now + 1)], lst .any (stN (s.fd.nodes.map cp) s.pls (ordS s.pls) (ordS s.pls).length).2, .int .i64 0]) := by
  have hm : maxLen = 9223372036854775807 := rfl
  have hv := validateSky_ok s hf hp (by omega) (by omega) hc
  have hcl := clone_ok s hf hp hb hpb hc hne
  obtain ⟨hsane, hn0, hn1, hp40, hfe⟩ := skyErr_sane he
  simp only [vSk, z4] at hv hcl
  have hng : ¬ 1600000 ≤ s.now := by omega
  generalize hns : s.fd.nodes.map cp = ns at *
  have hnl : ns.length = s.fd.nodes.length := by rw [← hns]; simp
  refine R_of_G (F := pf19) rfl rfl rfl ?_
  simp (disch := first | omega | with_unfolding_all rfl) [pf19, env0_eq, hv, he, hng, hcl]
  refine G_scanK [1, 2, 6, 8, 34, 35] (fun i e h => get e 36 = .int .i64 (i : Int) ∧ get e 7 = mls Int 6 (ordN s.pls i).length (ordN s.pls i).length ∧ h = [z4, ⟨31, 0, [mls Nd 4 s.fd.nodes.length s.fd.nodes.length, .int .i64 s.fd.inn, mls Pl 3 1 s.pls.length, .int .i64 s.now], none⟩,
      ⟨31, 0, [mls Nd 4 s.fd.nodes.length s.fd.nodes.length, .int .i64 s.fd.inn, mls Pl 3 1 s.pls.length, .int .i64 s.now], none⟩, bk 47 1 s.pls, bk 58 s.fd.nodes.length ns, ⟨31, 0, [mls Nd 4 s.fd.nodes.length s.fd.nodes.length, .int .i64 s.fd.inn, mls Pl 3 1 s.pls.length, .int .i64 (s.now + 1)], none⟩,
      bk 3 (ordN s.pls i).length (ordN s.pls i), ⟨3, 0, [], none⟩]) (fun _ => false) s.pls.length 0 ?_ (Nat.zero_le _) ?_
  · simp [z4, ordN]
  rintro i e h - hi - hk ⟨g1, g2, rfl⟩
  simp at hk
  have hol := ordN_len s.pls i
  simp (disch := first | omega | with_unfolding_all rfl) [hk, g1, g2, z4]
  refine G_brd (fun h1 => ?_) (fun h1 => ?_)
  · have hof : ordN s.pls (i + 1) = ordN s.pls i ++ (if 0 ≤ s.pls[i].pos then [(i : Int)] else []) := by simp [ordN, h1]
    simp (disch := first | omega | with_unfolding_all rfl) [h1]
    refine G_brd (fun h2 => ?_) (fun h2 => ?_)
    · rw [if_pos h2] at hof
      simp (disch := first | omega | with_unfolding_all rfl) [h1, h2, hof]
    · rw [if_neg h2] at hof
      simp (disch := first | omega | with_unfolding_all rfl) [h1, h2, hof]
  obtain rfl : i = s.pls.length := by omega
  have hoL := ordN_len s.pls s.pls.length
  have hol' : (ordN s.pls s.pls.length).length ≤ 40 := by omega
  have hord : ∀ x ∈ ordS s.pls, 0 ≤ x ∧ x < s.pls.length ∧ ∃ p, s.pls[x.toNat]? = some p ∧ 0 ≤ p.pos := fun x hx => ordN_lt _ _ x ((sortT_perm _ _).mem_iff.1 hx)
  have hsrt : ∀ bb, RO tb 38 [mls Int 6 (ordN s.pls s.pls.length).length (ordN s.pls s.pls.length).length, .clo (.func 39) [] [.pptr bb [lst s.fd.nl s.fd.nodes, .int .i64 s.fd.inn, lst s.nlp s.pls, .int .i64 s.now] 0]]
      [⟨31, 0, [.list .nil 2 [], .int .i64 0, .list .nil 5 [], .int .i64 0], none⟩, ⟨31, 0, [mls Nd 4 s.fd.nodes.length s.fd.nodes.length, .int .i64 s.fd.inn, mls Pl 3 1 s.pls.length, .int .i64 s.now], none⟩,
      ⟨31, 0, [mls Nd 4 s.fd.nodes.length s.fd.nodes.length, .int .i64 s.fd.inn, mls Pl 3 1 s.pls.length, .int .i64 s.now], none⟩, bk 47 1 s.pls, bk 58 s.fd.nodes.length ns, ⟨31, 0, [mls Nd 4 s.fd.nodes.length s.fd.nodes.length, .int .i64 s.fd.inn, mls Pl 3 1 s.pls.length, .int .i64 (s.now + 1)], none⟩,
      bk 3 (ordN s.pls s.pls.length).length (ordN s.pls s.pls.length), ⟨3, 0, [], none⟩] = some (.tup [], [⟨31, 0, [.list .nil 2 [], .int .i64 0, .list .nil 5 [], .int .i64 0], none⟩, ⟨31, 0, [mls Nd 4 s.fd.nodes.length s.fd.nodes.length, .int .i64 s.fd.inn, mls Pl 3 1 s.pls.length, .int .i64 s.now], none⟩,
      ⟨31, 0, [mls Nd 4 s.fd.nodes.length s.fd.nodes.length, .int .i64 s.fd.inn, mls Pl 3 1 s.pls.length, .int .i64 s.now], none⟩, bk 47 1 s.pls, bk 58 s.fd.nodes.length ns, ⟨31, 0, [mls Nd 4 s.fd.nodes.length s.fd.nodes.length, .int .i64 s.fd.inn, mls Pl 3 1 s.pls.length, .int .i64 (s.now + 1)], none⟩,
      bk 3 (ordN s.pls s.pls.length).length (ordS s.pls), ⟨3, 0, [], none⟩]) := fun bb =>
    sortStable_ok (b := 6) (gen := (ordN s.pls s.pls.length).length) (cmp39 bb (lst s.fd.nl s.fd.nodes) (.int .i64 s.fd.inn) s.nlp s.pls s.now (fun p hp => ⟨(hsane p hp).s0, (hsane p hp).s1⟩))
      (H := [⟨31, 0, [.list .nil 2 [], .int .i64 0, .list .nil 5 [], .int .i64 0], none⟩, ⟨31, 0, [mls Nd 4 s.fd.nodes.length s.fd.nodes.length, .int .i64 s.fd.inn, mls Pl 3 1 s.pls.length, .int .i64 s.now], none⟩,
      ⟨31, 0, [mls Nd 4 s.fd.nodes.length s.fd.nodes.length, .int .i64 s.fd.inn, mls Pl 3 1 s.pls.length, .int .i64 s.now], none⟩, bk 47 1 s.pls, bk 58 s.fd.nodes.length ns, ⟨31, 0, [mls Nd 4 s.fd.nodes.length s.fd.nodes.length, .int .i64 s.fd.inn, mls Pl 3 1 s.pls.length, .int .i64 (s.now + 1)], none⟩,
      bk 3 (ordN s.pls s.pls.length).length (ordN s.pls s.pls.length), ⟨3, 0, [], none⟩]) (by simp) _ (ordN_pair _ _) (fun x hx => ⟨(ordN_lt _ _ x hx).1, (ordN_lt _ _ x hx).2.1⟩) _ rfl hol'
  generalize hO : ordS s.pls = O at *
  have hOl : O.length = (ordN s.pls s.pls.length).length := by rw [← hO]; exact (sortT_perm _ _).length_eq
  rw [← hOl] at hsrt hol'
  simp (disch := first | omega | with_unfolding_all rfl) [h1]
  rw [← hOl]
  simp (disch := first | omega | with_unfolding_all rfl) [hsrt]
  have hst0 : ∀ (st : List Pl × List Int) (i : Nat) (p : Pl), st.1[i]? = some p → turn ns st i = ((st.1.set i (less1 p)).set i (turnP ns (st.1.set i (less1 p)) (less1 p)).1, if (turnP ns (st.1.set i (less1 p)) (less1 p)).2 then st.2 ++ [(i : Int)] else st.2) := fun st i p h => by unfold turn; rw [h]
  refine G_scanK [2, 6, 52, 53] (fun j e h => get e 54 = .int .i64 (j : Int) ∧ get e 8 = mls Int 7 (stN ns s.pls O j).2.length (stN ns s.pls O j).2.length ∧ (stN ns s.pls O j).1.length = s.pls.length ∧ (stN ns s.pls O j).2.length ≤ j ∧ (∀ q ∈ (stN ns s.pls O j).1, Sane ns q) ∧
      (∀ (i : Nat), (∀ t (ht : t < O.length), t < j → O[t] ≠ (i : Int)) → (stN ns s.pls O j).1[i]? = s.pls[i]?) ∧ h = [z4, ⟨31, 0, [mls Nd 4 s.fd.nodes.length s.fd.nodes.length, .int .i64 s.fd.inn, mls Pl 3 1 s.pls.length, .int .i64 s.now], none⟩,
      ⟨31, 0, [mls Nd 4 s.fd.nodes.length s.fd.nodes.length, .int .i64 s.fd.inn, mls Pl 3 1 s.pls.length, .int .i64 s.now], none⟩, bk 47 1 (stN ns s.pls O j).1, bk 58 s.fd.nodes.length ns, ⟨31, 0, [mls Nd 4 s.fd.nodes.length s.fd.nodes.length, .int .i64 s.fd.inn, mls Pl 3 1 s.pls.length, .int .i64 (s.now + 1)], none⟩,
      bk 3 O.length O, bk 3 (stN ns s.pls O j).2.length (stN ns s.pls O j).2]) (fun _ => false) O.length 0 ?_ (Nat.zero_le _) ?_
  · refine ⟨by simp, by simp [stN], rfl, Nat.le_refl _, fun q hq => ?_, fun i _ => rfl, rfl⟩
    have := hsane q hq
    exact ⟨this.p0, by have := this.p1; omega, this.w0, this.w1, this.v0, this.v1, this.l0, this.l1, this.s0, this.s1⟩
  rintro j e h - hj - hk2 ⟨g3, g4, i1, i2, i3, i4, rfl⟩
  simp at hk2
  simp (disch := first | omega | with_unfolding_all rfl) [hk2, g3, g4, z4]
  refine G_brd (fun h2 => ?_) (fun h2 => ?_)
  case refine_2 =>
    obtain rfl : j = O.length := by omega
    have hnb : ∀ x ∈ ns, ¬ x.nl = .bor := by
      rw [← hns]; intro x hx; obtain ⟨y, _, rfl⟩ := List.mem_map.1 hx; simp
    simp (disch := first | omega | with_unfolding_all rfl) [h2]
    rw [if_pos hnb]
    rfl
  obtain ⟨x0, x1, p0, hp0, hpos⟩ := hord _ (List.getElem_mem h2)
  have hOd : O.Nodup := by
    rw [← hO]
    exact (sortT_pair _ _ ((ordN_pair _ _).imp (fun h e => by omega))).imp (fun h e => by subst e; unfold tl at h; omega)
  have hcur : (stN ns s.pls O j).1[(O[j]).toNat]? = some p0 := by
    rw [i4 (O[j]).toNat (fun t ht htj q => ?_)]
    · exact hp0
    · have h5 : O[t] = O[j] := by omega
      exact absurd ((List.getElem_inj hOd).1 h5) (by omega)
  have hnext : stN ns s.pls O (j + 1) = turn ns (stN ns s.pls O j) (O[j]).toNat := by simp [stN, h2]
  generalize hst : stN ns s.pls O j = st at *
  generalize hx : (O[j]).toNat = x at *
  have hxl : x < st.1.length := by omega
  have hgx : st.1[x] = p0 := by
    have := List.getElem?_eq_getElem hxl
    rw [hcur] at this
    exact (Option.some.inj this).symm
  have hs0 := i3 p0 (by rw [← hgx]; exact List.getElem_mem hxl)
  rw [hst0 st x p0 hcur] at hnext
  have hl0 := hs0.l0
  have hl1 := hs0.l1
  have hless : (⟨p0.pos, p0.wish, p0.since, p0.speed, if p0.left - 1 < 0 then 0 else p0.left - 1⟩ : Pl) = less1 p0 := rfl
  have hs1 := sane_less hs0
  have hpp : 0 ≤ (less1 p0).pos := hpos
  simp (disch := first | omega | with_unfolding_all rfl) [h2, hx, hgx, hless]
  generalize hp1e : less1 p0 = p1 at *
  generalize hpl1 : st.1.set x p1 = pl1 at *
  have hpll : pl1.length = s.pls.length := by rw [← hpl1, List.length_set]; exact i1
  have hpx : x < pl1.length := by omega
  have hgx1 : pl1[x] = p1 := by
    have : pl1[x]? = some p1 := by rw [← hpl1]; simp [hxl]
    rw [List.getElem?_eq_getElem hpx] at this
    exact Option.some.inj this
  obtain ⟨k0, k1, k2, k3, k4, k5, k6, k7, k8, k9⟩ := hs1
  have hxc : O[j] = (x : Int) := by omega
  have hself : pl1.set x p1 = pl1 := by rw [← hgx1]; exact List.set_getElem_self hpx
  have hcn : ∀ n ∈ ns, n.on.length ≤ 400 := by
    rw [← hns]; intro n hn; obtain ⟨y, hy, rfl⟩ := List.mem_map.1 hn; exact hc y hy
  have hrn : ∀ n ∈ ns, ∀ o ∈ n.on, 0 ≤ o ∧ o < ns.length := by
    rw [hnl, ← hns]; intro n hn; obtain ⟨y, hy, rfl⟩ := List.mem_map.1 hn; exact fieldErr_on hfe y hy
  have hrk : ∀ k, k < ns.length → ∀ o ∈ onOf ns k, 0 ≤ o ∧ o < ns.length := by
    intro k hk o ho
    rw [on_eq hk] at ho
    exact hrn _ (List.getElem_mem hk) o ho
  have hA : ∀ p2, Sane ns p2 → (pl1.set x p2).length = s.pls.length ∧ (∀ q ∈ pl1.set x p2, Sane ns q) ∧ (∀ (i : Nat), (∀ t (ht : t < O.length), t < j + 1 → O[t] ≠ (i : Int)) → (pl1.set x p2)[i]? = s.pls[i]?) := by
    intro p2 hp2
    have e1 : pl1.set x p2 = st.1.set x p2 := by rw [← hpl1, List.set_set]
    rw [e1]
    refine ⟨by rw [List.length_set]; exact i1, fun q hq => ?_, fun i hi => ?_⟩
    · rcases List.mem_or_eq_of_mem_set hq with h | rfl
      · exact i3 q h
      · exact hp2
    · have hne : x ≠ i := by
        intro q
        exact hi j h2 (by omega) (by rw [hxc, q])
      rw [List.getElem?_set_ne hne]
      exact i4 i (fun t ht htj => hi t ht (by omega))
  have hB : ∀ (st' : List Pl × List Int) (p2 : Pl), Sane ns p2 → st'.1 = pl1.set x p2 → st'.2.length ≤ j + 1 → stN ns s.pls O (j + 1) = st' → (stN ns s.pls O (j + 1)).1.length = s.pls.length ∧ (stN ns s.pls O (j + 1)).2.length ≤ j + 1 ∧ (∀ q ∈ (stN ns s.pls O (j + 1)).1, Sane ns q) ∧ (∀ (i : Nat), (∀ t (ht : t < O.length), t < j + 1 → O[t] ≠ (i : Int)) → (stN ns s.pls O (j + 1)).1[i]? = s.pls[i]?) := by
    intro st' p2 h1 h2 h3 h4
    rw [h4, h2]
    exact ⟨(hA p2 h1).1, h3, (hA p2 h1).2.1, (hA p2 h1).2.2⟩
  have hsp1 : Sane ns p1 := ⟨k0, k1, k2, k3, k4, k5, k6, k7, k8, k9⟩
  simp (disch := first | omega | with_unfolding_all rfl) [hgx1]
  refine G_grdn (fun h3 => ?_) (fun h3 => ?_)
  case refine_2 =>
    have ht : turnP ns pl1 p1 = (p1, false) := by unfold turnP; rw [if_pos (.inl h3)]
    rw [ht] at hnext
    simp only [hself, Bool.false_eq_true, if_false] at hnext
    have hBB := hB _ p1 hsp1 (by rw [hself]) (by show st.2.length ≤ j + 1; omega) hnext
    simp (disch := first | omega | with_unfolding_all rfl) [h3]
    exact ⟨by rw [hnext], hBB.1, hBB.2.1, hBB.2.2.1, hBB.2.2.2, by rw [hnext], by rw [hnext], by rw [hnext]⟩
  simp (disch := first | omega | with_unfolding_all rfl) [h3, hgx1]
  by_cases h4 : p1.wish = 0
  · have ht : turnP ns pl1 p1 = (p1, false) := by unfold turnP; rw [if_pos (.inr h4)]
    rw [ht] at hnext
    simp only [hself, Bool.false_eq_true, if_false] at hnext
    have hBB := hB _ p1 hsp1 (by rw [hself]) (by show st.2.length ≤ j + 1; omega) hnext
    simp (disch := first | omega | with_unfolding_all rfl) [h4]
    exact ⟨by rw [hnext], hBB.1, hBB.2.1, hBB.2.2.1, hBB.2.2.2, by rw [hnext], by rw [hnext], by rw [hnext]⟩
  have hno := nodeOf_ok ⟨.bor, ns, s.fd.inn⟩ p1.pos hpp (by simp only; omega)
  simp only [vFd] at hno
  have hei := fun H => ends_int H (kd ns p1.pos.toNat) p1.wish k2
  simp (disch := first | omega | with_unfolding_all rfl) [h4, hgx1, hno, nck_node, hei]
  have hw0 : p1.wish.toNat ≠ 0 := by omega
  refine G_br (fun h5 => ?_) (fun h5 => ?_)
  · have ht : turnP ns pl1 p1 = (⟨if p1.wish = 2 then -1 else p1.pos, 0, p1.since, p1.speed, p1.left⟩, true) := by unfold turnP; rw [if_neg (by rintro (q | q); exact h3 q; exact h4 q), if_pos h5]
    rw [ht] at hnext
    simp only [if_true] at hnext
    have hBB := hB _ ⟨if p1.wish = 2 then -1 else p1.pos, 0, p1.since, p1.speed, p1.left⟩ ⟨by dsimp only; split <;> omega, by dsimp only; split <;> omega, by dsimp only; omega, by dsimp only; omega, k4, k5, k6, k7, k8, k9⟩ rfl (by simp only [List.length_append, List.length_cons, List.length_nil]; omega) hnext
    simp (disch := first | omega | with_unfolding_all rfl) [h5, hgx1]
    have hap : st.2 ++ [O[j]] = st.2 ++ [(x : Int)] := by rw [hxc]
    by_cases h6 : p1.wish = 2
    · rw [if_pos h6] at hnext
      have hls : (pl1.set x ⟨-1, p1.wish, p1.since, p1.speed, p1.left⟩).length = s.pls.length := by rw [List.length_set]; exact hpll
      have hls1 : (pl1.set x ⟨-1, 2, p1.since, p1.speed, p1.left⟩).length = s.pls.length := by rw [List.length_set]; exact hpll
      simp (disch := first | omega | with_unfolding_all rfl) [h6, hgx1, hap]
      exact ⟨by rw [hnext]; simp, hBB.1, hBB.2.1, hBB.2.2.1, hBB.2.2.2, by rw [hnext], by rw [hnext]; simp, by rw [hnext]⟩
    · rw [if_neg h6] at hnext
      simp (disch := first | omega | with_unfolding_all rfl) [h6, hgx1, hap]
      exact ⟨by rw [hnext]; simp, hBB.1, hBB.2.1, hBB.2.2.1, hBB.2.2.2, by rw [hnext], by rw [hnext]; simp, by rw [hnext]⟩
  have hfr : Free 40 [.pptr true [lst .bor ns, .int .i64 s.fd.inn, lst .bor pl1, .int .i64 (s.now + 1)] 0] (freeAt ns pl1) ns.length := ⟨fun H => rfl, rfl, fun k hk => free40_ok true .bor .bor ns s.fd.inn pl1 (by omega) (s.now + 1) k hk⟩
  obtain ⟨nlw, hnlw, hway⟩ := way_x ⟨.bor, ns, s.fd.inn⟩ (by show ns.length ≤ 400; omega) hcn hrn hfr p1.pos.toNat p1.wish.toNat (by show p1.pos.toNat < ns.length; omega)
  rw [show ((p1.pos.toNat : Nat) : Int) = p1.pos by omega, show ((p1.wish.toNat : Nat) : Int) = p1.wish by omega] at hway
  simp only [vFd] at hway
  simp (disch := first | omega | with_unfolding_all rfl) [h5, hgx1, hway, hnlw]
  refine G_br (fun h6 => ?_) (fun h6 => ?_)
  · obtain ⟨y, rest, hl2, hy⟩ := wayX_two hrk (a := p1.pos.toNat) (w := p1.wish.toNat) (fr := freeAt ns pl1) (by omega) hw0 (by rw [h5]; simp) h6
    have hyr := hrk p1.pos.toNat (by omega) y hy
    have ht : turnP ns pl1 p1 = (⟨y, p1.wish, p1.since, p1.speed, p1.speed⟩, false) := by
      unfold turnP
      rw [if_neg (by rintro (q | q); exact h3 q; exact h4 q), if_neg (by rw [h5]; simp), if_pos h6, hl2]
      rfl
    rw [ht] at hnext
    simp only [Bool.false_eq_true, if_false] at hnext
    have hBB := hB _ ⟨y, p1.wish, p1.since, p1.speed, p1.speed⟩ ⟨by dsimp only; omega, by dsimp only; omega, k2, k3, k4, k5, by dsimp only; omega, k5, k8, k9⟩ rfl (by show st.2.length ≤ j + 1; omega) hnext
    generalize ((p1.pos.toNat : Nat) : Int) = z at hl2
    have hl3 : (z :: y :: rest).length = rest.length + 2 := rfl
    have hls1 : (pl1.set x ⟨y, p1.wish, p1.since, p1.speed, p1.left⟩).length = s.pls.length := by rw [List.length_set]; exact hpll
    simp (disch := first | omega | with_unfolding_all rfl) [h6, hgx1, hl2]
    exact ⟨by rw [hnext], hBB.1, hBB.2.1, hBB.2.2.1, hBB.2.2.2, by rw [hnext], by rw [hnext], by rw [hnext]⟩
  · have ht : turnP ns pl1 p1 = (p1, false) := by
      unfold turnP
      rw [if_neg (by rintro (q | q); exact h3 q; exact h4 q), if_neg (by rw [h5]; simp), if_neg (by rw [h6]; simp)]
    rw [ht] at hnext
    simp only [hself, Bool.false_eq_true, if_false] at hnext
    have hBB := hB _ p1 hsp1 (by rw [hself]) (by show st.2.length ≤ j + 1; omega) hnext
    simp (disch := first | omega | with_unfolding_all rfl) [h6]
    exact ⟨by rw [hnext], hBB.1, hBB.2.1, hBB.2.2.1, hBB.2.2.2, by rw [hnext], by rw [hnext], by rw [hnext]⟩
theorem step0_ok (s : Sk) (hf : s.fd.nl ≠ .bor) (hp : s.nlp ≠ .bor) (hb : s.fd.nodes.length ≤ 400) (hc : ∀ n ∈ s.fd.nodes, n.on.length ≤ 400) (he : skyErr s = 0) (hnow : s.now < 1600000) (hne : s.pls = []) :
    R tb 19 [vSk s] = some (.tup [.agg [lst .any (s.fd.nodes.map cp), .int .i64 s.fd.inn, .list .nil 5 [], .int .i64 (s.now + 1)], lst .any ([] : List Int), .int .i64 0]) := by
  have hm : maxLen = 9223372036854775807 := rfl
  have hpb : s.pls.length ≤ 400 := by rw [hne]; simp
  have hv := validateSky_ok s hf hp (by omega) (by omega) hc
  have hcl := clone0_ok s hf hp hb hpb hc hne
  obtain ⟨hsane, hn0, hn1, hp40, hfe⟩ := skyErr_sane he
  have hng : ¬ 1600000 ≤ s.now := by omega
  obtain ⟨fd, nlp, pls, now⟩ := s
  simp only at *
  subst hne
  simp only [vSk, z4] at hv hcl
  have hnb : ∀ x ∈ fd.nodes.map cp, ¬ x.nl = .bor := by
    intro x hx; obtain ⟨y, _, rfl⟩ := List.mem_map.1 hx; simp
  generalize hns : fd.nodes.map cp = ns at *
  have hnl : ns.length = fd.nodes.length := by rw [← hns]; simp
  have hsrt : ∀ bb, RO tb 38 [mls Int 5 0 0, .clo (.func 39) [] [.pptr bb [lst fd.nl fd.nodes, .int .i64 fd.inn, lst nlp ([] : List Pl), .int .i64 now] 0]]
      [⟨31, 0, [.list .nil 2 [], .int .i64 0, .list .nil 5 [], .int .i64 0], none⟩, ⟨31, 0, [mls Nd 3 fd.nodes.length fd.nodes.length, .int .i64 fd.inn, .list .nil 5 [], .int .i64 now], none⟩,
      ⟨31, 0, [mls Nd 3 fd.nodes.length fd.nodes.length, .int .i64 fd.inn, .list .nil 5 [], .int .i64 now], none⟩, bk 58 fd.nodes.length ns, ⟨31, 0, [mls Nd 3 fd.nodes.length fd.nodes.length, .int .i64 fd.inn, .list .nil 5 [], .int .i64 (now + 1)], none⟩, ⟨3, 0, [], none⟩, ⟨3, 0, [], none⟩] =
      some (.tup [], [⟨31, 0, [.list .nil 2 [], .int .i64 0, .list .nil 5 [], .int .i64 0], none⟩, ⟨31, 0, [mls Nd 3 fd.nodes.length fd.nodes.length, .int .i64 fd.inn, .list .nil 5 [], .int .i64 now], none⟩,
      ⟨31, 0, [mls Nd 3 fd.nodes.length fd.nodes.length, .int .i64 fd.inn, .list .nil 5 [], .int .i64 now], none⟩, bk 58 fd.nodes.length ns, ⟨31, 0, [mls Nd 3 fd.nodes.length fd.nodes.length, .int .i64 fd.inn, .list .nil 5 [], .int .i64 (now + 1)], none⟩, ⟨3, 0, [], none⟩, ⟨3, 0, [], none⟩]) := fun bb =>
    sortStable_ok (b := 5) (gen := 0) (cmp39 bb (lst fd.nl fd.nodes) (.int .i64 fd.inn) nlp [] now (fun p hp => by cases hp))
      (H := [⟨31, 0, [.list .nil 2 [], .int .i64 0, .list .nil 5 [], .int .i64 0], none⟩, ⟨31, 0, [mls Nd 3 fd.nodes.length fd.nodes.length, .int .i64 fd.inn, .list .nil 5 [], .int .i64 now], none⟩,
      ⟨31, 0, [mls Nd 3 fd.nodes.length fd.nodes.length, .int .i64 fd.inn, .list .nil 5 [], .int .i64 now], none⟩, bk 58 fd.nodes.length ns, ⟨31, 0, [mls Nd 3 fd.nodes.length fd.nodes.length, .int .i64 fd.inn, .list .nil 5 [], .int .i64 (now + 1)], none⟩, ⟨3, 0, [], none⟩, ⟨3, 0, [], none⟩]) (by simp) [] List.Pairwise.nil (fun x hx => by cases hx) 0 rfl (by omega)
  refine R_of_G (F := pf19) rfl rfl rfl ?_
  simp (disch := first | omega | with_unfolding_all rfl) [pf19, env0_eq, hv, he, hng, hcl]
  rw [G_unroll]
  simp (disch := first | omega | with_unfolding_all rfl) [hsrt]
  rw [G_unroll]
  simp (disch := first | omega | with_unfolding_all rfl)
  rw [if_pos hnb]
  have hz : ∀ (H : Hp) (k : Nat), frzB Int H .any k (some ⟨3, 0, [], none⟩) 0 0 = some (lst .any ([] : List Int)) := fun H k => (frzB_bk (H := H) (n := k) (e := 3) (gen := 0) (xs := ([] : List Int)) rfl).trans (if_pos rfl)
  simp [hz]
theorem step_err (s : Sk) (hf : s.fd.nl ≠ .bor) (hp : s.nlp ≠ .bor) (hb : s.fd.nodes.length ≤ 400) (hpb : s.pls.length ≤ 400) (hc : ∀ n ∈ s.fd.nodes, n.on.length ≤ 400) (h : skyErr s ≠ 0 ∨ 1600000 ≤ s.now) :
    R tb 19 [vSk s] = some (.tup [.agg [.list .nil 2 [], .int .i64 0, .list .nil 5 [], .int .i64 0], .list .nil 1 [], .int .i64 (if skyErr s ≠ 0 then skyErr s else 10)]) := by
  have hm : maxLen = 9223372036854775807 := rfl
  have hv := validateSky_ok s hf hp (by omega) (by omega) hc
  simp only [vSk] at hv
  refine R_of_G (F := pf19) rfl rfl rfl ?_
  simp (disch := first | omega | with_unfolding_all rfl) [pf19, env0_eq, hv]
  by_cases h0 : skyErr s = 0
  case neg => simp (disch := first | omega | with_unfolding_all rfl) [h0]
  have hn : 1600000 ≤ s.now := h.resolve_left (by simp [h0])
  simp (disch := first | omega | with_unfolding_all rfl) [h0, hn]
end Go.Proofs.Ytmbknidfkddpfaa
