/- Airports: a tick of the document's answer. -/
import Derived.Test.YtmbknidfkddpfaaAirRef1
import Derived.Test.YtmbknidfkddpfaaAirStep3
set_option linter.unusedVariables false
set_option linter.unusedSimpArgs false
set_option maxHeartbeats 4000000
set_option maxRecDepth 20000
namespace Go.Proofs.Ytmbknidfkddpfaa
open Go.Proofs.Ytmbknidfkddpfaa.PM

theorem rstep_ok (s : Sk) (hf : s.fd.nl ≠ .bor) (hp : s.nlp ≠ .bor) (hb : s.fd.nodes.length ≤ 400) (hpb : s.pls.length ≤ 400) (hc : ∀ n ∈ s.fd.nodes, n.on.length ≤ 400) (he : skyErr s = 0) (hnow : s.now < 1600000) (hne : s.pls ≠ []) :
    R tb 20 [vSk s] = some (.tup [.agg [lst .any (s.fd.nodes.map cp), .int .i64 s.fd.inn, lst .any (stN (s.fd.nodes.map cp) s.pls (ordS s.pls) (ordS s.pls).length).1, .int .i64 (s.now + 1)], lst .any (stN (s.fd.nodes.map cp) s.pls (ordS s.pls) (ordS s.pls).length).2, .int .i64 0]) := by
  have hm : maxLen = 9223372036854775807 := rfl
  have hv := refValidateSky_ok s hf hp (by omega) (by omega) hc
  have hcl := copied_ok s hf hp hb hpb hc hne
  obtain ⟨nlo, hnlo, hli⟩ := line_x s.nlp s.pls hpb
  obtain ⟨hsane, hn0, hn1, hp40, hfe⟩ := skyErr_sane he
  simp only [vSk, z4] at hv hcl
  have hng : ¬ s.now = 1600000 := by omega
  have hord : ∀ x ∈ ordS s.pls, 0 ≤ x ∧ x < s.pls.length ∧ ∃ p, s.pls[x.toNat]? = some p ∧ 0 ≤ p.pos := fun x hx => ordN_lt _ _ x ((sortT_perm _ _).mem_iff.1 hx)
  have hol' : (ordS s.pls).length ≤ 40 := by
    have := (sortT_perm (since s.pls) (ordN s.pls s.pls.length)).length_eq
    have := ordN_len s.pls s.pls.length
    show (sortT (since s.pls) (ordN s.pls s.pls.length)).length ≤ 40
    omega
  have hOd : (ordS s.pls).Nodup := by
    exact (sortT_pair _ _ ((ordN_pair _ _).imp (fun h e => by omega))).imp (fun h e => by subst e; unfold tl at h; omega)
  generalize hO : ordS s.pls = O at *
  have hli' : R tb 45 [lst s.nlp s.pls] = some (lst nlo O) := by rw [hli, ← hO]
  clear hli
  generalize hns : s.fd.nodes.map cp = ns at *
  have hnl : ns.length = s.fd.nodes.length := by rw [← hns]; simp
  refine R_of_G (F := pf20) rfl rfl rfl ?_
  simp (disch := first | omega | with_unfolding_all rfl) [pf20, env0_eq, hv, he, hng, hcl, hli']
  have hst0 : ∀ (st : List Pl × List Int) (i : Nat) (p : Pl), st.1[i]? = some p → turn ns st i = ((st.1.set i (less1 p)).set i (turnP ns (st.1.set i (less1 p)) (less1 p)).1, if (turnP ns (st.1.set i (less1 p)) (less1 p)).2 then st.2 ++ [(i : Int)] else st.2) := fun st i p h => by unfold turn; rw [h]
  refine G_scanK [2, 6, 34, 35] (fun j e h => get e 36 = .int .i64 (j : Int) ∧ get e 7 = mls Int 6 (stN ns s.pls O j).2.length (stN ns s.pls O j).2.length ∧ (stN ns s.pls O j).1.length = s.pls.length ∧ (stN ns s.pls O j).2.length ≤ j ∧ (∀ q ∈ (stN ns s.pls O j).1, Sane ns q) ∧
      (∀ (i : Nat), (∀ t (ht : t < O.length), t < j → O[t] ≠ (i : Int)) → (stN ns s.pls O j).1[i]? = s.pls[i]?) ∧ h = [z4, ⟨31, 0, [mls Nd 3 0 s.fd.nodes.length, .int .i64 s.fd.inn, mls Pl 4 1 s.pls.length, .int .i64 s.now]⟩, ⟨31, 0, [mls Nd 3 0 s.fd.nodes.length, .int .i64 s.fd.inn, mls Pl 4 1 s.pls.length, .int .i64 s.now]⟩, bk 58 0 ns, bk 47 1 (stN ns s.pls O j).1, ⟨31, 0, [mls Nd 3 0 s.fd.nodes.length, .int .i64 s.fd.inn, mls Pl 4 1 s.pls.length, .int .i64 (s.now + 1)]⟩, bk 3 (stN ns s.pls O j).2.length (stN ns s.pls O j).2]) (fun _ => false) O.length 0 ?_ (Nat.zero_le _) ?_
  · refine ⟨by simp, by simp [stN], rfl, Nat.le_refl _, fun q hq => ?_, fun i _ => rfl, rfl⟩
    have := hsane q hq
    exact ⟨this.p0, by have := this.p1; omega, this.w0, this.w1, this.v0, this.v1, this.l0, this.l1, this.s0, this.s1⟩
  rintro j e h - hj - hk2 ⟨g3, g4, i1, i2, i3, i4, rfl⟩
  simp at hk2
  simp (disch := first | omega | with_unfolding_all rfl) [hk2, g3, g4, z4]
  refine G_brd (fun h2 => ?_) (fun h2 => ?_)
  case refine_2 =>
    obtain rfl : j = O.length := by omega
    have hnb : ∀ x ∈ ns, ¬ x.nl = .bor := by
      rw [← hns]; intro x hx; obtain ⟨y, _, rfl⟩ := List.mem_map.1 hx; simp
    simp (disch := first | omega | with_unfolding_all rfl) [h2]
    rw [if_pos hnb]
    rfl
  obtain ⟨x0, x1, p0, hp0, hpos⟩ := hord _ (List.getElem_mem h2)
  have hcur : (stN ns s.pls O j).1[(O[j]).toNat]? = some p0 := by
    rw [i4 (O[j]).toNat (fun t ht htj q => ?_)]
    · exact hp0
    · have h5 : O[t] = O[j] := by omega
      exact absurd ((List.getElem_inj hOd).1 h5) (by omega)
  have hnext : stN ns s.pls O (j + 1) = turn ns (stN ns s.pls O j) (O[j]).toNat := by simp [stN, h2]
  generalize hst : stN ns s.pls O j = st at *
  generalize hx : (O[j]).toNat = x at *
  have hxl : x < st.1.length := by omega
  have hgx : st.1[x] = p0 := by
    have := List.getElem?_eq_getElem hxl
    rw [hcur] at this
    exact (Option.some.inj this).symm
  have hs0 := i3 p0 (by rw [← hgx]; exact List.getElem_mem hxl)
  rw [hst0 st x p0 hcur] at hnext
  have hl0 := hs0.l0
  have hl1 := hs0.l1
  have hxc : O[j] = (x : Int) := by omega
  have hs1 := sane_less hs0
  have hcn : ∀ n ∈ ns, n.on.length ≤ 400 := by
    rw [← hns]; intro n hn; obtain ⟨y, hy, rfl⟩ := List.mem_map.1 hn; exact hc y hy
  have hrn : ∀ n ∈ ns, ∀ o ∈ n.on, 0 ≤ o ∧ o < ns.length := by
    rw [hnl, ← hns]; intro n hn; obtain ⟨y, hy, rfl⟩ := List.mem_map.1 hn; exact fieldErr_on hfe y hy
  have hrk : ∀ k, k < ns.length → ∀ o ∈ onOf ns k, 0 ≤ o ∧ o < ns.length := by
    intro k hk o ho
    rw [on_eq hk] at ho
    exact hrn _ (List.getElem_mem hk) o ho
  have hB : ∀ (st' : List Pl × List Int) (p2 : Pl), Sane ns p2 → st'.1 = st.1.set x p2 → st'.2.length ≤ j + 1 → stN ns s.pls O (j + 1) = st' → (stN ns s.pls O (j + 1)).1.length = s.pls.length ∧ (stN ns s.pls O (j + 1)).2.length ≤ j + 1 ∧ (∀ q ∈ (stN ns s.pls O (j + 1)).1, Sane ns q) ∧ (∀ (i : Nat), (∀ t (ht : t < O.length), t < j + 1 → O[t] ≠ (i : Int)) → (stN ns s.pls O (j + 1)).1[i]? = s.pls[i]?) := by
    intro st' p2 h1 h2' h3 h4
    rw [h4, h2']
    refine ⟨by rw [List.length_set]; exact i1, h3, fun q hq => ?_, fun i hi => ?_⟩
    · rcases List.mem_or_eq_of_mem_set hq with h | rfl
      · exact i3 q h
      · exact h1
    · have hne : x ≠ i := by
        intro q
        exact hi j h2 (by omega) (by rw [hxc, q])
      rw [List.getElem?_set_ne hne]
      exact i4 i (fun t ht htj => hi t ht (by omega))
  simp (disch := first | omega | with_unfolding_all rfl) [h2, hx, hgx]
  by_cases h3 : p0.left ≤ 1
  case neg =>
    have hL : (if p0.left - 1 < 0 then 0 else p0.left - 1) = p0.left - 1 := if_neg (by omega)
    have hless : less1 p0 = ⟨p0.pos, p0.wish, p0.since, p0.speed, p0.left - 1⟩ := by unfold less1; rw [hL]
    rw [hless] at hnext hs1
    have ht : turnP ns (st.1.set x ⟨p0.pos, p0.wish, p0.since, p0.speed, p0.left - 1⟩) ⟨p0.pos, p0.wish, p0.since, p0.speed, p0.left - 1⟩ = (⟨p0.pos, p0.wish, p0.since, p0.speed, p0.left - 1⟩, false) := by unfold turnP; rw [if_pos (.inl (show 0 < p0.left - 1 by omega))]
    rw [ht] at hnext
    simp only [List.set_set, Bool.false_eq_true, if_false] at hnext
    have hBB := hB _ _ hs1 rfl (by show st.2.length ≤ j + 1; omega) hnext
    have hb1 : 1 ≤ p0.left := by omega
    have hb2 : ¬ (p0.left - 1 = 0) := by omega
    simp (disch := first | omega | with_unfolding_all rfl) [hL, hb1, hb2, hx]
    exact ⟨by rw [hnext], hBB.1, hBB.2.1, hBB.2.2.1, hBB.2.2.2, by rw [hnext], by rw [hnext], by rw [hnext]⟩
  have hL : (if p0.left - 1 < 0 then 0 else p0.left - 1) = 0 := by split <;> omega
  have hless : less1 p0 = ⟨p0.pos, p0.wish, p0.since, p0.speed, 0⟩ := by unfold less1; rw [hL]
  have hb3 : (!decide (1 ≤ p0.left) || decide (p0.left - 1 = 0)) = true := by
    by_cases q : 1 ≤ p0.left
    · rw [decide_eq_true q, decide_eq_true (by omega)]; rfl
    · rw [decide_eq_false q]; rfl
  rw [hless] at hnext hs1
  obtain ⟨k0, k1, k2, k3, k4, k5, k6, k7, k8, k9⟩ := hs1
  dsimp only at k0 k1 k2 k3 k4 k5 k6 k7 k8 k9
  simp only [hL, hb3]
  simp (disch := first | omega | with_unfolding_all rfl) []
  refine G_brd (fun h4 => ?_) (fun h4 => ?_)
  case refine_2 =>
    have ht : turnP ns (st.1.set x ⟨p0.pos, p0.wish, p0.since, p0.speed, 0⟩) ⟨p0.pos, p0.wish, p0.since, p0.speed, 0⟩ = (⟨p0.pos, p0.wish, p0.since, p0.speed, 0⟩, false) := by unfold turnP; rw [if_pos (.inr (show p0.wish = 0 by omega))]
    rw [ht] at hnext
    simp only [List.set_set, Bool.false_eq_true, if_false] at hnext
    have hBB := hB _ _ (show Sane ns ⟨p0.pos, p0.wish, p0.since, p0.speed, 0⟩ from ⟨k0, k1, k2, k3, k4, k5, k6, k7, k8, k9⟩) rfl (by show st.2.length ≤ j + 1; omega) hnext
    simp (disch := first | omega | with_unfolding_all rfl) [h4, hx]
    exact ⟨by rw [hnext], hBB.1, hBB.2.1, hBB.2.2.1, hBB.2.2.2, by rw [hnext], by rw [hnext], by rw [hnext]⟩
  have hw0 : p0.wish.toNat ≠ 0 := by omega
  have hend := ended_ok ⟨.bor, ns, s.fd.inn⟩ (by show ns.length ≤ 400; omega) p0.pos.toNat p0.wish.toNat (by show p0.pos.toNat < ns.length; omega)
  rw [show ((p0.pos.toNat : Nat) : Int) = p0.pos by omega, show ((p0.wish.toNat : Nat) : Int) = p0.wish by omega, decide_eq_false hw0, Bool.false_or] at hend
  simp only [vFd] at hend
  simp (disch := first | omega | with_unfolding_all rfl) [h4, hend]
  refine G_br (fun h5 => ?_) (fun h5 => ?_)
  · have ht : turnP ns (st.1.set x ⟨p0.pos, p0.wish, p0.since, p0.speed, 0⟩) ⟨p0.pos, p0.wish, p0.since, p0.speed, 0⟩ = (⟨if p0.wish = 2 then -1 else p0.pos, 0, p0.since, p0.speed, 0⟩, true) := by
      unfold turnP; rw [if_neg (by dsimp only; omega), if_pos h5]
    rw [ht] at hnext
    simp only [List.set_set, if_true] at hnext
    have hBB := hB _ _ (show Sane ns ⟨if p0.wish = 2 then -1 else p0.pos, 0, p0.since, p0.speed, 0⟩ from ⟨by dsimp only; split <;> omega, by dsimp only; split <;> omega, by dsimp only; omega, by dsimp only; omega, k4, k5, k6, k7, k8, k9⟩) rfl (by simp only [List.length_append, List.length_cons, List.length_nil]; omega) hnext
    have hap : st.2 ++ [O[j]] = st.2 ++ [(x : Int)] := by rw [hxc]
    by_cases h6 : p0.wish = 2
    · rw [if_pos h6] at hnext
      simp (disch := first | omega | with_unfolding_all rfl) [h5, h6, hap, hx]
      exact ⟨by rw [hnext]; simp, hBB.1, hBB.2.1, hBB.2.2.1, hBB.2.2.2, by rw [hnext], by rw [hnext]; simp, by rw [hnext]⟩
    · rw [if_neg h6] at hnext
      simp (disch := first | omega | with_unfolding_all rfl) [h5, h6, hap, hx]
      exact ⟨by rw [hnext]; simp, hBB.1, hBB.2.1, hBB.2.2.1, hBB.2.2.2, by rw [hnext], by rw [hnext]; simp, by rw [hnext]⟩
  simp (disch := first | omega | with_unfolding_all rfl) [h5]
  refine G_scanK [2, 6, 7, 9, 10, 11, 34, 35, 36, 80, 81] (fun k e h => get e 82 = .int .i64 (k : Int) ∧ h = [z4, ⟨31, 0, [mls Nd 3 0 s.fd.nodes.length, .int .i64 s.fd.inn, mls Pl 4 1 s.pls.length, .int .i64 s.now]⟩, ⟨31, 0, [mls Nd 3 0 s.fd.nodes.length, .int .i64 s.fd.inn, mls Pl 4 1 s.pls.length, .int .i64 s.now]⟩, bk 58 0 ns, bk 47 1 st.1, ⟨31, 0, [mls Nd 3 0 s.fd.nodes.length, .int .i64 s.fd.inn, mls Pl 4 1 s.pls.length, .int .i64 (s.now + 1)]⟩, bk 3 st.2.length st.2, ⟨47, 0, [.int .i64 p0.pos, .int .i64 p0.wish, .int .i64 p0.since, .int .i64 p0.speed, .int .i64 0]⟩, bk 4 0 (bsN ns st.1 x k)]) (fun _ => false) st.1.length 0 ?_ (Nat.zero_le _) ?_
  · simp [bsN, z4, hnl]
  rintro k e h - hkl - hk3 ⟨g5, rfl⟩
  simp at hk3
  simp (disch := first | omega | with_unfolding_all rfl) [hk3, g5, z4]
  refine G_brd (fun h6 => ?_) (fun h6 => ?_)
  · have hkl2 : k < st.1.length := by omega
    have hq := i3 _ (List.getElem_mem hkl2)
    have hbl := bsN_len ns st.1 x k
    have hbs1 : bsN ns st.1 x (k + 1) = if k ≠ x ∧ 0 ≤ st.1[k].pos ∧ kd ns st.1[k].pos.toNat ≠ 0 then (bsN ns st.1 x k).set st.1[k].pos.toNat true else bsN ns st.1 x k := by
      simp only [bsN, List.getElem?_eq_getElem hkl2]
    have hq1 := hq.p1
    simp (disch := first | omega | with_unfolding_all rfl) [h6, hxc]
    by_cases hkx : k = x
    · rw [if_neg (by rintro ⟨q, -⟩; exact q hkx)] at hbs1
      simp (disch := first | omega | with_unfolding_all rfl) [hkx]
      exact ⟨by omega, by subst hkx; rw [hbs1]⟩
    have hkx2 : ¬ (k : Int) = (x : Int) := by omega
    simp (disch := first | omega | with_unfolding_all rfl) [hkx2]
    by_cases hqp : 0 ≤ st.1[k].pos
    case neg =>
      rw [if_neg (by rintro ⟨-, q, -⟩; exact hqp q)] at hbs1
      simp (disch := first | omega | with_unfolding_all rfl) [hqp, hkx, hbs1]
      exact hkl2
    have hkk := kd_sym (ns := ns) (i := st.1[k].pos.toNat) (by omega)
    simp (disch := first | omega | with_unfolding_all rfl) [hqp, hkk]
    by_cases hkd : kd ns st.1[k].pos.toNat = 0
    · rw [if_neg (by rintro ⟨-, -, q⟩; exact q hkd)] at hbs1
      simp (disch := first | omega | with_unfolding_all rfl) [hkd, hqp, hkx, hbs1]
      exact hkl2
    · rw [if_pos ⟨hkx, hqp, hkd⟩] at hbs1
      simp (disch := first | omega | with_unfolding_all rfl) [hkd, hqp, hkx, hbs1]
      exact hkl2
  obtain rfl : k = st.1.length := by omega
  have hbl := bsN_len ns st.1 x st.1.length
  obtain ⟨nlw, hnlw, hway⟩ := path_x ⟨.bor, ns, s.fd.inn⟩ (by show ns.length ≤ 400; omega) hcn hrn .bor (bsN ns st.1 x st.1.length) hbl p0.pos.toNat p0.wish.toNat (by show p0.pos.toNat < ns.length; omega)
  rw [show ((p0.pos.toNat : Nat) : Int) = p0.pos by omega, show ((p0.wish.toNat : Nat) : Int) = p0.wish by omega] at hway
  have hcg : wayX ns p0.pos.toNat p0.wish.toNat (frB (bsN ns st.1 x st.1.length)) = wayX ns p0.pos.toNat p0.wish.toNat (freeAt ns (st.1.set x ⟨p0.pos, p0.wish, p0.since, p0.speed, 0⟩)) :=
    wayX_congr fun k hk hka => frB_free (p1 := ⟨p0.pos, p0.wish, p0.since, p0.speed, 0⟩) hcur rfl k hk hka hpos
  simp only [vFd] at hway
  rw [hcg] at hway
  simp (disch := first | omega | with_unfolding_all rfl) [h6, hway]
  refine G_br (fun h7 => ?_) (fun h7 => ?_)
  · obtain ⟨y, rest, hl2, hy⟩ := wayX_two hrk (a := p0.pos.toNat) (w := p0.wish.toNat) (fr := freeAt ns (st.1.set x ⟨p0.pos, p0.wish, p0.since, p0.speed, 0⟩)) (by omega) hw0 (by rw [h5]; simp) h7
    have hyr := hrk p0.pos.toNat (by omega) y hy
    have ht : turnP ns (st.1.set x ⟨p0.pos, p0.wish, p0.since, p0.speed, 0⟩) ⟨p0.pos, p0.wish, p0.since, p0.speed, 0⟩ = (⟨y, p0.wish, p0.since, p0.speed, p0.speed⟩, false) := by
      unfold turnP
      rw [if_neg (by dsimp only; omega), if_neg (by rw [h5]; simp), if_pos h7]
      dsimp only
      rw [hl2]
      rfl
    rw [ht] at hnext
    simp only [List.set_set, Bool.false_eq_true, if_false] at hnext
    have hBB := hB _ _ (show Sane ns ⟨y, p0.wish, p0.since, p0.speed, p0.speed⟩ from ⟨by dsimp only; omega, by dsimp only; omega, k2, k3, k4, k5, by dsimp only; omega, k5, k8, k9⟩) rfl (by show st.2.length ≤ j + 1; omega) hnext
    generalize ((p0.pos.toNat : Nat) : Int) = z at hl2
    have hl3 : (z :: y :: rest).length = rest.length + 2 := rfl
    simp (disch := first | omega | with_unfolding_all rfl) [h7, hl2, hx]
    exact ⟨by rw [hnext], hBB.1, hBB.2.1, hBB.2.2.1, hBB.2.2.2, by rw [hnext], by rw [hnext], by rw [hnext]⟩
  · have ht : turnP ns (st.1.set x ⟨p0.pos, p0.wish, p0.since, p0.speed, 0⟩) ⟨p0.pos, p0.wish, p0.since, p0.speed, 0⟩ = (⟨p0.pos, p0.wish, p0.since, p0.speed, 0⟩, false) := by
      unfold turnP
      rw [if_neg (by dsimp only; omega), if_neg (by rw [h5]; simp), if_neg (by dsimp only; rw [h7]; simp)]
    rw [ht] at hnext
    simp only [List.set_set, Bool.false_eq_true, if_false] at hnext
    have hBB := hB _ _ (show Sane ns ⟨p0.pos, p0.wish, p0.since, p0.speed, 0⟩ from ⟨k0, k1, k2, k3, k4, k5, k6, k7, k8, k9⟩) rfl (by show st.2.length ≤ j + 1; omega) hnext
    simp (disch := first | omega | with_unfolding_all rfl) [h7, hx]
    exact ⟨by rw [hnext], hBB.1, hBB.2.1, hBB.2.2.1, hBB.2.2.2, by rw [hnext], by rw [hnext], by rw [hnext]⟩
theorem rstep0_ok (s : Sk) (hf : s.fd.nl ≠ .bor) (hp : s.nlp ≠ .bor) (hb : s.fd.nodes.length ≤ 400) (hc : ∀ n ∈ s.fd.nodes, n.on.length ≤ 400) (he : skyErr s = 0) (hnow : s.now < 1600000) (hne : s.pls = []) :
    R tb 20 [vSk s] = some (.tup [.agg [lst .any (s.fd.nodes.map cp), .int .i64 s.fd.inn, .list .nil 5 [], .int .i64 (s.now + 1)], lst .any ([] : List Int), .int .i64 0]) := by
  have hm : maxLen = 9223372036854775807 := rfl
  have hpb : s.pls.length ≤ 400 := by rw [hne]; simp
  have hv := refValidateSky_ok s hf hp (by omega) (by omega) hc
  have hcl := copied0_ok s hf hp hb hpb hc hne
  have hli := line_ok s.nlp s.pls hpb
  rw [hne, if_pos (show ordN ([] : List Pl) ([] : List Pl).length = [] from rfl)] at hli
  obtain ⟨hsane, hn0, hn1, hp40, hfe⟩ := skyErr_sane he
  have hng : ¬ s.now = 1600000 := by omega
  obtain ⟨fd, nlp, pls, now⟩ := s
  simp only at *
  subst hne
  simp only [vSk, z4] at hv hcl
  have hnb : ∀ x ∈ fd.nodes.map cp, ¬ x.nl = .bor := by
    intro x hx; obtain ⟨y, _, rfl⟩ := List.mem_map.1 hx; simp
  generalize hns : fd.nodes.map cp = ns at *
  have hnl : ns.length = fd.nodes.length := by rw [← hns]; simp
  refine R_of_G (F := pf20) rfl rfl rfl ?_
  simp (disch := first | omega | with_unfolding_all rfl) [pf20, env0_eq, hv, he, hng, hcl, hli]
  rw [G_unroll]
  simp (disch := first | omega | with_unfolding_all rfl)
  rw [if_pos hnb]
  have hz : ∀ (H : Hp) (k : Nat), frzB Int H .any k (some ⟨3, 0, []⟩) 0 0 = some (lst .any ([] : List Int)) := fun H k => (frzB_bk (H := H) (n := k) (e := 3) (gen := 0) (xs := ([] : List Int)) rfl).trans (if_pos rfl)
  simp [hz]
theorem rstep_err (s : Sk) (hf : s.fd.nl ≠ .bor) (hp : s.nlp ≠ .bor) (hb : s.fd.nodes.length ≤ 400) (hpb : s.pls.length ≤ 400) (hc : ∀ n ∈ s.fd.nodes, n.on.length ≤ 400) (h : skyErr s ≠ 0 ∨ 1600000 ≤ s.now) :
    R tb 20 [vSk s] = some (.tup [.agg [.list .nil 2 [], .int .i64 0, .list .nil 5 [], .int .i64 0], .list .nil 1 [], .int .i64 (if skyErr s ≠ 0 then skyErr s else 10)]) := by
  have hm : maxLen = 9223372036854775807 := rfl
  have hv := refValidateSky_ok s hf hp (by omega) (by omega) hc
  simp only [vSk] at hv
  refine R_of_G (F := pf20) rfl rfl rfl ?_
  simp (disch := first | omega | with_unfolding_all rfl) [pf20, env0_eq, hv]
  by_cases h0 : skyErr s = 0
  case neg => simp (disch := first | omega | with_unfolding_all rfl) [h0]
  have hn : 1600000 ≤ s.now := h.resolve_left (by simp [h0])
  have hn1 := (skyErr_sane h0).2.2.1
  have hn2 : s.now = 1600000 := by omega
  simp (disch := first | omega | with_unfolding_all rfl) [h0, hn2]
end Go.Proofs.Ytmbknidfkddpfaa
