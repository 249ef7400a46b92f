/- Airports: a tick is the document's. -/
import Derived.Test.YtmbknidfkddpfaaAirRef2
import Derived.Test.YtmbknidfkddpfaaAirArrive
set_option linter.unusedVariables false
set_option linter.unusedSimpArgs false
set_option maxHeartbeats 4000000
set_option maxRecDepth 20000
namespace Go.Proofs.Ytmbknidfkddpfaa
open Go.Proofs.Ytmbknidfkddpfaa.PM

theorem stN_len (ns : List Nd) (pl : List Pl) (O : List Int) (j : Nat) : (stN ns pl O j).1.length = pl.length ∧ (stN ns pl O j).2.length ≤ j := by
  induction j with
  | zero => exact ⟨rfl, Nat.le_refl _⟩
  | succ j ih =>
    simp only [stN]
    split
    · unfold turn
      split
      · exact ⟨ih.1, by omega⟩
      · refine ⟨by simp only [List.length_set]; exact ih.1, ?_⟩
        split
        · simp only [List.length_append, List.length_cons, List.length_nil]; omega
        · have := ih.2; dsimp only; omega
    · exact ⟨ih.1, by omega⟩
theorem steps_ok (s : Sk) (hf : s.fd.nl ≠ .bor) (hp : s.nlp ≠ .bor) (hb : s.fd.nodes.length ≤ maxLen) (hpb : s.pls.length ≤ maxLen) : R tb 5 [vSk s] = some (.bool true) := by
  have hm : maxLen = 9223372036854775807 := rfl
  have h1 := large_ok s.fd hf hb
  simp only [vFd] at h1
  refine R_of_G (F := pf5) rfl rfl rfl ?_
  simp (disch := first | omega | with_unfolding_all rfl) [pf5, env0_eq, h1]
  cases hl : large s.fd
  case true => simp (disch := first | omega | with_unfolding_all rfl) [hl, known_ok]
  have hc := large_le hl
  have hb4 : s.fd.nodes.length ≤ 400 := by
    simp only [large, Bool.or_eq_false_iff, decide_eq_false_iff_not] at hl
    omega
  simp (disch := first | omega | with_unfolding_all rfl) [hl, known_ok]
  refine G_brd (fun h => ?_) (fun h => ?_)
  · simp (disch := first | omega | with_unfolding_all rfl) [h, known_ok]
  have hcm : ∀ n ∈ s.fd.nodes.map cp, n.on.length ≤ 400 := by intro n hn; simp only [List.mem_map] at hn; obtain ⟨m, hm, rfl⟩ := hn; exact hc m hm
  by_cases he : skyErr s ≠ 0 ∨ 1600000 ≤ s.now
  · have h2 := step_err s hf hp hb4 (by omega) hc he
    have h3 := rstep_err s hf hp hb4 (by omega) hc he
    have h4 := sameSky_ok ⟨⟨.nil, [], 0⟩, .nil, [], 0⟩ ⟨⟨.nil, [], 0⟩, .nil, [], 0⟩ (by simp) (by simp) (by simp) (by simp) rfl (Alike.refl _) rfl rfl (by simp) (by simp) (by simp)
    have h5 : R tb 22 [vZ, vZ] = some (.bool true) := h4
    have h6 := sameInts_ok .nil .nil [] (by simp)
    have h7 : R tb 21 [.list .nil 1 [], .list .nil 1 []] = some (.bool true) := h6
    simp only [vZ] at h5
    simp only [vSk] at h2 h3
    generalize (if skyErr s ≠ 0 then skyErr s else 10) = er at h2 h3
    simp (disch := first | omega | with_unfolding_all rfl) [h, h2, h3, vZ, h5, h7, known_ok]
  have he0 : skyErr s = 0 := by
    rcases Decidable.em (skyErr s = 0) with q | q
    · exact q
    · exact absurd (.inl q) he
  have hn0 : s.now < 1600000 := by
    rcases Decidable.em (s.now < 1600000) with q | q
    · exact q
    · exact absurd (.inr (by omega)) he
  by_cases hne : s.pls = []
  · have h2 := step0_ok s hf hp hb4 hc he0 hn0 hne
    have h3 := rstep0_ok s hf hp hb4 hc he0 hn0 hne
    have h4 := sameSky_ok ⟨⟨.any, s.fd.nodes.map cp, s.fd.inn⟩, .nil, [], s.now + 1⟩ ⟨⟨.any, s.fd.nodes.map cp, s.fd.inn⟩, .nil, [], s.now + 1⟩ (by simp) (by simp) (by simp) (by simp) rfl (Alike.refl _) rfl rfl (by simp; omega) (by simp) hcm
    have h5 := sameInts_ok .any .any [] (by simp)
    simp only [vSk] at h2 h3 h4
    have h6 : R tb 22 [.agg [lst .any (s.fd.nodes.map cp), .int .i64 s.fd.inn, .list .nil 5 [], .int .i64 (s.now + 1)], .agg [lst .any (s.fd.nodes.map cp), .int .i64 s.fd.inn, .list .nil 5 [], .int .i64 (s.now + 1)]] = some (.bool true) := h4
    simp (disch := first | omega | with_unfolding_all rfl) [h, h2, h3, h5, h6, known_ok]
  · have h2 := step_ok s hf hp hb4 (by omega) hc he0 hn0 hne
    have h3 := rstep_ok s hf hp hb4 (by omega) hc he0 hn0 hne
    have hol : (ordS s.pls).length ≤ s.pls.length := by
      have := (sortT_perm (since s.pls) (ordN s.pls s.pls.length)).length_eq
      have := ordN_len s.pls s.pls.length
      show (sortT (since s.pls) (ordN s.pls s.pls.length)).length ≤ _
      omega
    have hst := stN_len (s.fd.nodes.map cp) s.pls (ordS s.pls) (ordS s.pls).length
    generalize stN (s.fd.nodes.map cp) s.pls (ordS s.pls) (ordS s.pls).length = st at *
    have h4 := sameSky_ok ⟨⟨.any, s.fd.nodes.map cp, s.fd.inn⟩, .any, st.1, s.now + 1⟩ ⟨⟨.any, s.fd.nodes.map cp, s.fd.inn⟩, .any, st.1, s.now + 1⟩ (by simp) (by simp) (by simp) (by simp) rfl (Alike.refl _) rfl rfl (by simp; omega) (by simp; omega) hcm
    have h5 := sameInts_ok .any .any st.2 (by omega)
    simp only [vSk] at h2 h3 h4
    simp (disch := first | omega | with_unfolding_all rfl) [h, h2, h3, h5, h4, known_ok]
end Go.Proofs.Ytmbknidfkddpfaa
