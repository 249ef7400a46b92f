/- Airports: a wish, by the program. -/
import Derived.Test.YtmbknidfkddpfaaAirKeep2
set_option linter.unusedVariables false
set_option linter.unusedSimpArgs false
set_option maxHeartbeats 8000000
set_option maxRecDepth 20000
namespace Go.Proofs.Ytmbknidfkddpfaa
open Go.Proofs.Ytmbknidfkddpfaa.PM

theorem ask_ok (s : Sk) (hf : s.fd.nl ≠ .bor) (hp : s.nlp ≠ .bor) (hb : s.fd.nodes.length ≤ 400) (hpb : s.pls.length ≤ 400) (hc : ∀ n ∈ s.fd.nodes, n.on.length ≤ 400) (i w : Int) :
    R tb 33 [vSk s, .int .i64 i, .int .i64 w] = some (if askE s i w ≠ 0 then .tup [vZ, .int .i64 (askE s i w)] else .tup [vCp s (s.pls.set i.toNat (askPl s i.toNat w)), .int .i64 0]) := by
  have hm : maxLen = 9223372036854775807 := rfl
  have hv := validateSky_ok s hf hp (by omega) (by omega) hc
  simp only [vSk] at hv
  refine R_of_G (F := pf33) rfl rfl rfl ?_
  simp (disch := first | omega | with_unfolding_all rfl) [pf33, env0_eq, hv]
  by_cases h0 : skyErr s = 0
  case neg =>
    have he : askE s i w = skyErr s := by simp [askE, h0]
    simp (disch := first | omega | with_unfolding_all rfl) [h0, he, vZ]
  simp (disch := first | omega | with_unfolding_all rfl) [h0]
  by_cases h1 : i < 0
  case pos =>
    have he : askE s i w = 2 := by simp [askE, h0, h1]
    simp (disch := first | omega | with_unfolding_all rfl) [h1, he, vZ]
  by_cases h2 : (s.pls.length : Int) ≤ i
  case pos =>
    have he : askE s i w = 2 := by simp [askE, h0, h2]
    simp (disch := first | omega | with_unfolding_all rfl) [h1, h2, he, vZ]
  have hlt : i.toNat < s.pls.length := by omega
  have hne : s.pls ≠ [] := by intro q; rw [q] at hlt; simp at hlt
  have hq := askE_in s i w h0 h1 h2 hlt
  by_cases h3 : s.pls[i.toNat].pos < 0
  case pos =>
    have he : askE s i w = 13 := by rw [hq, if_pos (.inl h3)]
    simp (disch := first | omega | with_unfolding_all rfl) [h1, h2, h3, he, vZ, hlt]
  by_cases h4 : s.pls[i.toNat].wish = 0
  case neg =>
    have he : askE s i w = 13 := by rw [hq, if_pos (.inr h4)]
    simp (disch := first | omega | with_unfolding_all rfl) [h1, h2, h3, h4, he, vZ, hlt]
  by_cases h5 : w = 1 ∨ w = 2
  case neg =>
    have he : askE s i w = 1 := by rw [hq, if_neg (by rintro (a | a); exact h3 a; exact a h4), if_pos (by omega)]
    have h5a : ¬ w = 1 := fun e => h5 (.inl e)
    have h5b : ¬ w = 2 := fun e => h5 (.inr e)
    simp (disch := first | omega | with_unfolding_all rfl) [h1, h2, h3, h4, h5a, h5b, he, vZ, hlt]
  have he : askE s i w = 0 := by rw [hq, if_neg (by rintro (a | a); exact h3 a; exact a h4), if_neg (by omega)]
  have hcl := clone_ok s hf hp hb hpb hc hne
  simp only [vSk, z4] at hcl
  have h5c : (if w = 1 then PV.bool false else PV.bool (!decide (w = 2))) = PV.bool false := by rcases h5 with h5 | h5 <;> simp [h5]
  rcases h5 with rfl | rfl
  all_goals
    simp (disch := first | omega | with_unfolding_all rfl) [h1, h2, h3, h4, hcl, he, hlt]
    refine G_reg_chk ?_ ?_
    · refine all_cons_ck (ckOne_of rfl ?_) (all_cons_ck (ckOne_of rfl ?_) (all_cons_ck (ckOne_of rfl ?_) (all_cons_ck (ckOne_of rfl ?_) all_nil_ck)))
      all_goals simp (disch := first | omega | with_unfolding_all rfl | (simp only [List.length_set, List.length_map] <;> omega))
    simp (disch := first | omega | with_unfolding_all rfl | (simp only [List.length_set, List.length_map] <;> omega)) [hcl, he, vCp, askPl, hlt]
end Go.Proofs.Ytmbknidfkddpfaa
