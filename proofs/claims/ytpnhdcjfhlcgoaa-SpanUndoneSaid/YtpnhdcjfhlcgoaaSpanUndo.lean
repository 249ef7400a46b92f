/- Spans: what is added and dropped again. -/
import Derived.Test.YtpnhdcjfhlcgoaaSpanPlain
set_option linter.unusedVariables false
set_option linter.unusedSimpArgs false
set_option maxHeartbeats 4000000
set_option maxRecDepth 20000
namespace Go.Proofs.Ytpnhdcjfhlcgoaa
open Go.Proofs.Ytpnhdcjfhlcgoaa.PM

theorem undone_ok {l : Ld} (hf : l.nl ≠ .bor) (hb : l.xs.length ≤ maxLen) {ss : List Sp} (hs : ss.length ≤ maxLen) (s : Sp) : R tbS 11 [vL l, lst .any ss, vSpan s.k s.a s.b s.u] = some (.bool true) := by
  have h0 := M2 (n2 := natX) (far_ok hf hb (snl := .any) hs)
  have h1 := fun (h : l.xs.length ≤ 3000) (h' : ss.length ≤ 300) => add_ok hf h (snl := .any) (fun _ => rfl) h' s
  have h2 := fun (h : l.xs.length ≤ 3000) (h' : (srtS (ss ++ [s])).length ≤ 300) n => drop_ok (n2 := natX) hf h h' n (fun s r => natX_46 s r)
  have hk := M2 (n2 := natX) known_ok
  have hsm := fun (h : ss.length ≤ 3000) => M2 (n2 := natX) (same2_ok (n1 := .any) (n3 := .any) h)
  have hV : addV l ss s = if addE l ss s ≠ 0 then .list .nil 1 [] else lst .any (srtS (ss ++ [s])) := rfl
  have hN : addN l ss s = if addE l ss s ≠ 0 then 0 else prI s.k (btw l.w.toNat s.a s.b).length := rfl
  have hp : addE l ss s = 0 → (0 ≤ prI s.k (btw l.w.toNat s.a s.b).length ∧ prI s.k (btw l.w.toNat s.a s.b).length ≤ 1000000) := fun h => by
    obtain ⟨_, q, _⟩ := addE_0 h
    obtain ⟨hk, A, B, hA, hB, hab, hBN, hd, _, hnn⟩ := sErr_0 q
    rw [hA, hB]
    exact prI_nn hk (by omega)
  have hl40 : addE l ss s = 0 → ss.length < 40 := fun h => (addE_0 h).2.2.2
  have hdr : addE l ss s = 0 → ∀ n, (n = s.a ∨ n = s.b) → dropV .any l (srtS (ss ++ [s])) n = lst .any ss ∧ dropN l (srtS (ss ++ [s])) n = (prI s.k (btw l.w.toNat s.a s.b).length).tdiv 4 ∧ dropE l (srtS (ss ++ [s])) n = 0 := fun h n hn => by
    obtain ⟨i, e1, e2, e3⟩ := add_drop h hn
    have e4 := add_lst h
    unfold dropV dropN dropE
    rw [e4, e1]
    simp only [ne_eq, not_true_eq_false, if_false, e2, e3]
    exact ⟨trivial, rfl, trivial⟩
  have hla : (srtS (ss ++ [s])).length = ss.length + 1 := by rw [len_srtS]; simp
  generalize srtS (ss ++ [s]) = a at *
  generalize prI s.k (btw l.w.toNat s.a s.b).length = p at *
  generalize addV l ss s = rV at *
  generalize addE l ss s = rE at *
  generalize addN l ss s = rN at *
  change R (tbM natX) 11 _ = _
  by_cases c : 3000 < l.xs.length ∨ 300 < ss.length
  · have hc : (decide (3000 < l.xs.length) || decide (300 < ss.length)) = true := by simpa using c
    rw [hc] at h0
    obtain ⟨w, hh, nl, xs⟩ := l
    dsimp only at hf hb h0
    refine R_of_G (F := pf11) (M_nat rfl) rfl rfl ?_
    simp (disch := first | omega | with_unfolding_all rfl) [pf11, env0_eq, hf, h0, hk]
  · have hc : (decide (3000 < l.xs.length) || decide (300 < ss.length)) = false := by simp; omega
    rw [hc] at h0
    have h1 := h1 (by omega) (by omega)
    change R (tbM natX) 28 _ = _ at h1
    have hsm := hsm (by omega)
    by_cases c1 : rE = 0
    case neg =>
      rw [if_pos c1] at hV hN
      subst hV hN
      obtain ⟨w, hh, nl, xs⟩ := l
      dsimp only at hf hb h0 h1
      refine R_of_G (F := pf11) (M_nat rfl) rfl rfl ?_
      simp (disch := first | omega | with_unfolding_all rfl) [pf11, env0_eq, hf, h0, hk, h1, c1]
    rw [if_neg (by omega)] at hV hN
    subst hV hN
    have hl40 := hl40 c1
    obtain ⟨hp1, hp2⟩ := hp c1
    have h2 := h2 (by omega) (by omega)
    have ha := h2 s.a
    have hb2 := h2 s.b
    obtain ⟨a1, a2, a3⟩ := hdr c1 s.a (.inl rfl)
    obtain ⟨b1, b2, b3⟩ := hdr c1 s.b (.inr rfl)
    rw [a1, a2, a3] at ha
    rw [b1, b2, b3] at hb2
    have h5 : IntKind.wrap .i64 (rN.tdiv 4) = rN.tdiv 4 := wrap_dv (by omega) (by omega) (by omega)
    obtain ⟨w, hh, nl, xs⟩ := l
    dsimp only at hf hb h0 h1 ha hb2
    refine R_of_G (F := pf11) (M_nat rfl) rfl rfl ?_
    simp (disch := first | omega | with_unfolding_all rfl) [pf11, env0_eq, hf, h0, hk, h1, c1, ha, hb2, h5, hsm]
end Go.Proofs.Ytpnhdcjfhlcgoaa
