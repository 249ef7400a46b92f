/- Airports: how a plane arrives. -/
import Derived.Test.YtmbknidfkddpfaaPmNineteen
import Derived.Test.YtmbknidfkddpfaaAirClone
set_option linter.unusedVariables false
set_option linter.unusedSimpArgs false
set_option maxHeartbeats 1000000
namespace Go.Proofs.Ytmbknidfkddpfaa
open Go.Proofs.Ytmbknidfkddpfaa.PM

def arrErr (s : Sk) (i : Int) : Int := if skyErr s ≠ 0 then skyErr s else if i < 0 ∨ (s.pls.length : Int) ≤ i then 2 else match s.pls[i.toNat]? with | some p => if 0 ≤ p.pos then 13 else 0 | none => 0
def vZ : PV := .agg [.list .nil 2 [], .int .i64 0, .list .nil 5 [], .int .i64 0]
def arrPl (s : Sk) (i : Nat) : Pl := match s.pls[i]? with | some p => ⟨s.fd.inn, 1, s.now, p.speed, p.speed⟩ | none => ⟨0, 0, 0, 0, 0⟩
noncomputable def vCp (s : Sk) (pl : List Pl) : PV := .agg [lst .any (s.fd.nodes.map cp), .int .i64 s.fd.inn, lst .any pl, .int .i64 s.now]
theorem arrive_ok (s : Sk) (hf : s.fd.nl ≠ .bor) (hp : s.nlp ≠ .bor) (hb : s.fd.nodes.length ≤ 400) (hpb : s.pls.length ≤ 400) (hc : ∀ n ∈ s.fd.nodes, n.on.length ≤ 400) (i : Int) :
    R tb 23 [vSk s, .int .i64 i] = some (if arrErr s i ≠ 0 then .tup [vZ, .int .i64 (arrErr s i)] else .tup [vCp s (s.pls.set i.toNat (arrPl s i.toNat)), .int .i64 0]) := by
  have hm : maxLen = 9223372036854775807 := rfl
  have hv := validateSky_ok s hf hp (by omega) (by omega) hc
  simp only [vSk] at hv
  refine R_of_G (F := pf23) rfl rfl rfl ?_
  simp (disch := first | omega | with_unfolding_all rfl) [pf23, env0_eq, hv]
  by_cases h0 : skyErr s = 0
  case neg =>
    have he : arrErr s i = skyErr s := by simp [arrErr, h0]
    simp (disch := first | omega | with_unfolding_all rfl) [h0, he, vZ]
  simp (disch := first | omega | with_unfolding_all rfl) [h0]
  refine G_grdn (fun h1 => ?_) (fun h1 => ?_)
  case refine_2 =>
    have he : arrErr s i = 2 := by simp [arrErr, h0, h1]
    simp (disch := first | omega | with_unfolding_all rfl) [h1, he, vZ]
  simp (disch := first | omega | with_unfolding_all rfl) [h1]
  refine G_brd (fun h2 => ?_) (fun h2 => ?_)
  · have he : arrErr s i = 2 := by simp [arrErr, h0, h2]
    simp (disch := first | omega | with_unfolding_all rfl) [h2, he, vZ]
  simp (disch := first | omega | with_unfolding_all rfl) [h2]
  have hlt : i.toNat < s.pls.length := by omega
  have hne : s.pls ≠ [] := by intro q; rw [q] at hlt; simp at hlt
  refine G_brd (fun h3 => ?_) (fun h3 => ?_)
  · have he : arrErr s i = 13 := by simp [arrErr, h0, h1, h2, h3, hlt]
    simp (disch := first | omega | with_unfolding_all rfl) [h3, he, vZ]
  have he : arrErr s i = 0 := by simp [arrErr, h0, h1, h2, h3, hlt]
  have hcl := clone_ok s hf hp hb hpb hc hne
  simp only [vSk, z4] at hcl
  simp (disch := first | omega | with_unfolding_all rfl) [h3, hcl, he]
  refine G_reg_chk ?_ ?_
  · refine all_cons_ck (ckOne_of rfl ?_) (all_cons_ck (ckOne_of rfl ?_) (all_cons_ck (ckOne_of rfl ?_) (all_cons_ck (ckOne_of rfl ?_) all_nil_ck)))
    · simp (disch := first | omega | with_unfolding_all rfl | (simp only [List.length_set, List.length_map] <;> omega))
    · simp (disch := first | omega | with_unfolding_all rfl | (simp only [List.length_set, List.length_map] <;> omega))
    · simp (disch := first | omega | with_unfolding_all rfl | (simp only [List.length_set, List.length_map] <;> omega))
    · simp (disch := first | omega | with_unfolding_all rfl | (simp only [List.length_set, List.length_map] <;> omega))
  simp (disch := first | omega | with_unfolding_all rfl | (simp only [List.length_set, List.length_map] <;> omega)) [h3, hcl, he, vCp, arrPl, hlt]
def askErr (s : Sk) (i : Int) : Int := if skyErr s ≠ 0 then skyErr s else if i < 0 ∨ (s.pls.length : Int) ≤ i then 2 else 0
theorem asked_ok (s : Sk) (hf : s.fd.nl ≠ .bor) (hp : s.nlp ≠ .bor) (hb : s.fd.nodes.length ≤ 400) (hpb : s.pls.length ≤ 400) (hc : ∀ n ∈ s.fd.nodes, n.on.length ≤ 400) (i : Int) :
    R tb 49 [vSk s, .int .i64 i] = some (.int .i64 (askErr s i)) := by
  have hm : maxLen = 9223372036854775807 := rfl
  have hv := refValidateSky_ok s hf hp (by omega) (by omega) hc
  simp only [vSk] at hv
  refine R_of_G (F := pf49) rfl rfl rfl ?_
  simp (disch := first | omega | with_unfolding_all rfl | (simp only [List.length_set, List.length_map] <;> omega)) [pf49, env0_eq, hv]
  by_cases h0 : skyErr s = 0
  case neg => simp (disch := first | omega | with_unfolding_all rfl | (simp only [List.length_set, List.length_map] <;> omega)) [h0, askErr]
  simp (disch := first | omega | with_unfolding_all rfl | (simp only [List.length_set, List.length_map] <;> omega)) [h0]
  refine G_grdn (fun h1 => ?_) (fun h1 => ?_)
  case refine_2 => simp (disch := first | omega | with_unfolding_all rfl | (simp only [List.length_set, List.length_map] <;> omega)) [h1, askErr, h0]
  simp (disch := first | omega | with_unfolding_all rfl | (simp only [List.length_set, List.length_map] <;> omega)) [h1]
  refine G_brd (fun h2 => ?_) (fun h2 => ?_)
  · simp (disch := first | omega | with_unfolding_all rfl | (simp only [List.length_set, List.length_map] <;> omega)) [h1, h2, askErr, h0]
  · simp (disch := first | omega | with_unfolding_all rfl | (simp only [List.length_set, List.length_map] <;> omega)) [h1, h2, askErr, h0]
theorem refArrive_ok (s : Sk) (hf : s.fd.nl ≠ .bor) (hp : s.nlp ≠ .bor) (hb : s.fd.nodes.length ≤ 400) (hpb : s.pls.length ≤ 400) (hc : ∀ n ∈ s.fd.nodes, n.on.length ≤ 400) (i : Int) :
    R tb 24 [vSk s, .int .i64 i] = some (if arrErr s i ≠ 0 then .tup [vZ, .int .i64 (arrErr s i)] else .tup [vCp s (s.pls.set i.toNat (arrPl s i.toNat)), .int .i64 0]) := by
  have hm : maxLen = 9223372036854775807 := rfl
  have hv := asked_ok s hf hp hb hpb hc i
  simp only [vSk] at hv
  refine R_of_G (F := pf24) rfl rfl rfl ?_
  simp (disch := first | omega | with_unfolding_all rfl | (simp only [List.length_set, List.length_map] <;> omega)) [pf24, env0_eq, hv]
  by_cases h0 : skyErr s = 0
  case neg =>
    have he : arrErr s i = skyErr s := by simp [arrErr, h0]
    simp (disch := first | omega | with_unfolding_all rfl | (simp only [List.length_set, List.length_map] <;> omega)) [h0, he, vZ, askErr]
  by_cases h1 : i < 0 ∨ (s.pls.length : Int) ≤ i
  case pos =>
    have he : arrErr s i = 2 := by simp [arrErr, h0, h1]
    simp (disch := first | omega | with_unfolding_all rfl | (simp only [List.length_set, List.length_map] <;> omega)) [h0, h1, he, vZ, askErr]
  have ha : askErr s i = 0 := by simp [askErr, h0, h1]
  simp (disch := first | omega | with_unfolding_all rfl | (simp only [List.length_set, List.length_map] <;> omega)) [ha]
  have hlt : i.toNat < s.pls.length := by omega
  have hne : s.pls ≠ [] := by intro q; rw [q] at hlt; simp at hlt
  refine G_brd (fun h3 => ?_) (fun h3 => ?_)
  · have he : arrErr s i = 13 := by simp [arrErr, h0, h1, h3, hlt]
    simp (disch := first | omega | with_unfolding_all rfl | (simp only [List.length_set, List.length_map] <;> omega)) [h3, he, vZ]
  have he : arrErr s i = 0 := by simp [arrErr, h0, h1, h3, hlt]
  have hcl := copied_ok s hf hp hb hpb hc hne
  simp only [vSk, z4] at hcl
  simp (disch := first | omega | with_unfolding_all rfl | (simp only [List.length_set, List.length_map] <;> omega)) [h3, hcl, he, vCp, arrPl, hlt]
theorem alike_cp (ns : List Nd) : Alike (ns.map cp) (ns.map cp) := Alike.refl _
theorem arrives_ok (s : Sk) (hf : s.fd.nl ≠ .bor) (hp : s.nlp ≠ .bor) (hb : s.fd.nodes.length ≤ maxLen) (hpb : s.pls.length ≤ maxLen) (i : Int) : R tb 6 [vSk s, .int .i64 i] = some (.bool true) := by
  have h1 := large_ok s.fd hf hb
  simp only [vFd] at h1
  refine R_of_G (F := pf6) rfl rfl rfl ?_
  simp (disch := first | omega | with_unfolding_all rfl | (simp only [List.length_set, List.length_map] <;> omega)) [pf6, env0_eq, h1]
  cases hl : large s.fd
  case true => simp (disch := first | omega | with_unfolding_all rfl | (simp only [List.length_set, List.length_map] <;> omega)) [hl, known_ok]
  have hc := large_le hl
  have hb4 : s.fd.nodes.length ≤ 400 := by
    simp only [large, Bool.or_eq_false_iff, decide_eq_false_iff_not] at hl
    omega
  simp (disch := first | omega | with_unfolding_all rfl | (simp only [List.length_set, List.length_map] <;> omega)) [hl, known_ok]
  refine G_brd (fun h => ?_) (fun h => ?_)
  · simp (disch := first | omega | with_unfolding_all rfl | (simp only [List.length_set, List.length_map] <;> omega)) [h, known_ok]
  have h2 := arrive_ok s hf hp hb4 (by omega) hc i
  have h3 := refArrive_ok s hf hp hb4 (by omega) hc i
  simp only [vSk] at h2 h3
  by_cases he : arrErr s i = 0
  · have h4 := sameSky_ok ⟨⟨.any, s.fd.nodes.map cp, s.fd.inn⟩, .any, s.pls.set i.toNat (arrPl s i.toNat), s.now⟩ ⟨⟨.any, s.fd.nodes.map cp, s.fd.inn⟩, .any, s.pls.set i.toNat (arrPl s i.toNat), s.now⟩ (by simp) (by simp) (by simp) (by simp) rfl (Alike.refl _) rfl rfl
      (by simp; omega) (by simp; omega) (by intro n hn; simp only [List.mem_map] at hn; obtain ⟨m, hm, rfl⟩ := hn; exact hc m hm)
    simp only [vSk] at h4
    simp (disch := first | omega | with_unfolding_all rfl | (simp only [List.length_set, List.length_map] <;> omega)) [h, h2, h3, he, vCp, h4, known_ok]
  · have h4 := sameSky_ok ⟨⟨.nil, [], 0⟩, .nil, [], 0⟩ ⟨⟨.nil, [], 0⟩, .nil, [], 0⟩ (by simp) (by simp) (by simp) (by simp) rfl (Alike.refl _) rfl rfl (by simp) (by simp) (by simp)
    have h5 : R tb 22 [vZ, vZ] = some (.bool true) := h4
    simp only [vZ] at h5
    simp (disch := first | omega | with_unfolding_all rfl | (simp only [List.length_set, List.length_map] <;> omega)) [h, h2, h3, he, vZ, h5, known_ok]
end Go.Proofs.Ytmbknidfkddpfaa
