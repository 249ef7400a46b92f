/- Airports: whether planes can come in and go out. -/
import Derived.Test.YtmbknidfkddpfaaAirWays
set_option linter.unusedVariables false
set_option linter.unusedSimpArgs false
set_option maxHeartbeats 1000000
namespace Go.Proofs.Ytmbknidfkddpfaa
open Go.Proofs.Ytmbknidfkddpfaa.PM

def shutAt (ns : List Nd) (i : Nat) : Bool := decide (kd ns i = 3) && !(wayX ns i 2 (noBar ns.length)).2
def openB (f : Fd) : Bool := (wayX f.nodes f.inn.toNat 1 (noBar f.nodes.length)).2 && !anyN (shutAt f.nodes) 0 f.nodes.length
theorem Open_ok (f : Fd) (hf : f.nl ≠ .bor) (hb : f.nodes.length ≤ 400) (hc : ∀ n ∈ f.nodes, n.on.length ≤ 400) :
    R tb 31 [vFd f] = some (if fieldErr f ≠ 0 then .tup [.bool false, .int .i64 (fieldErr f)] else .tup [.bool (openB f), .int .i64 0]) := by
  have hm : maxLen = 9223372036854775807 := rfl
  have hv := validate_ok f hf (by omega) hc
  simp only [vFd] at hv
  refine R_of_G (F := pf31) rfl rfl rfl ?_
  simp (disch := first | omega | with_unfolding_all rfl) [pf31, env0_eq, hv]
  by_cases h0 : fieldErr f = 0
  case neg => simp (disch := first | omega | with_unfolding_all rfl) [h0]
  obtain ⟨hi0, hi1, hi2⟩ := fieldErr_inn h0
  obtain ⟨nl, hnl, hw⟩ := way_x f hf hb hc (fieldErr_on h0) (free51 _) f.inn.toNat 1 (by omega)
  rw [show ((f.inn.toNat : Nat) : Int) = f.inn by omega] at hw
  simp only [vFd] at hw
  rw [show ((1 : Nat) : Int) = 1 from rfl] at hw
  simp (disch := first | omega | with_unfolding_all rfl) [h0, hw, hnl]
  refine G_br (fun h1 => ?_) (fun h1 => ?_)
  case refine_2 => simp (disch := first | omega | with_unfolding_all rfl) [h1, openB]
  simp (disch := first | omega | with_unfolding_all rfl) [h1]
  refine G_scanC [1, 5, 28, 29] 30 (shutAt f.nodes) f.nodes.length 0 (by simp) (Nat.zero_le _) ?_
  rintro i e - hi hz hk hci
  simp at hk
  simp (disch := first | omega | with_unfolding_all rfl) [hk, hci]
  refine G_brd (fun h2 => ?_) (fun h2 => ?_)
  · have hkk := kd_eq h2
    have hs : shutAt f.nodes i = (decide (f.nodes[i].kind = 3) && !(wayX f.nodes i 2 (noBar f.nodes.length)).2) := by rw [shutAt, hkk]
    obtain ⟨nl2, hnl2, hw2⟩ := way_x f hf hb hc (fieldErr_on h0) (free51 _) i 2 (by omega)
    simp only [vFd] at hw2
    rw [show ((2 : Nat) : Int) = 2 from rfl] at hw2
    simp (disch := first | omega | with_unfolding_all rfl) [h2]
    refine G_brd (fun h3 => ?_) (fun h3 => ?_)
    · rw [decide_eq_true h3, Bool.true_and] at hs
      simp (disch := first | omega | with_unfolding_all rfl) [h3, hw2, hnl2]
      refine G_br (fun h4 => ?_) (fun h4 => ?_)
      · rw [h4] at hs
        simp (disch := first | omega | with_unfolding_all rfl) [h4, hs, h2]
      · rw [h4] at hs
        have hn : anyN (shutAt f.nodes) 0 f.nodes.length = true := anyN_t (Nat.zero_le i) h2 hs
        simp (disch := first | omega | with_unfolding_all rfl) [h4, openB, hn]
    · rw [decide_eq_false h3, Bool.false_and] at hs
      simp (disch := first | omega | with_unfolding_all rfl) [h3, hs, h2]
  · have hn : anyN (shutAt f.nodes) 0 f.nodes.length = false := anyN_cut hz (by omega)
    simp (disch := first | omega | with_unfolding_all rfl) [h2, openB, h1, hn]
theorem refOpen_ok (f : Fd) (hf : f.nl ≠ .bor) (hb : f.nodes.length ≤ 400) (hc : ∀ n ∈ f.nodes, n.on.length ≤ 400) :
    R tb 32 [vFd f] = some (if fieldErr f ≠ 0 then .tup [.bool false, .int .i64 (fieldErr f)] else .tup [.bool (openB f), .int .i64 0]) := by
  have hm : maxLen = 9223372036854775807 := rfl
  have hv := refValidate_ok f hf (by omega) hc
  simp only [vFd] at hv
  refine R_of_G (F := pf32) rfl rfl rfl ?_
  simp (disch := first | omega | with_unfolding_all rfl) [pf32, env0_eq, hv]
  by_cases h0 : fieldErr f = 0
  case neg => simp (disch := first | omega | with_unfolding_all rfl) [h0]
  obtain ⟨hi0, hi1, hi2⟩ := fieldErr_inn h0
  have hrl : (List.replicate f.nodes.length false).length = f.nodes.length := by simp
  obtain ⟨nl, hnl, hw⟩ := path_x f hf hb hc (fieldErr_on h0) .bor (List.replicate f.nodes.length false) hrl f.inn.toNat 1 (by omega)
  rw [show ((f.inn.toNat : Nat) : Int) = f.inn by omega] at hw
  simp only [vFd] at hw
  rw [show ((1 : Nat) : Int) = 1 from rfl] at hw
  simp (disch := first | omega | with_unfolding_all rfl) [h0, hw, hnl]
  refine G_br (fun h1 => ?_) (fun h1 => ?_)
  case refine_2 => simp (disch := first | omega | with_unfolding_all rfl) [h1, openB]
  simp (disch := first | omega | with_unfolding_all rfl) [h1]
  refine G_scanK [1, 5, 32, 33] (fun i e h => get e 34 = .int .i64 (i : Int) ∧ h = [bk 4 0 (List.replicate f.nodes.length false)]) (shutAt f.nodes) f.nodes.length 0 (by simp) (Nat.zero_le _) ?_
  rintro i e h - hi hz hk ⟨hci, rfl⟩
  simp at hk
  simp (disch := first | omega | with_unfolding_all rfl) [hk, hci]
  refine G_brd (fun h2 => ?_) (fun h2 => ?_)
  · have hkk := kd_eq h2
    have hs : shutAt f.nodes i = (decide (f.nodes[i].kind = 3) && !(wayX f.nodes i 2 (noBar f.nodes.length)).2) := by rw [shutAt, hkk]
    obtain ⟨nl2, hnl2, hw2⟩ := path_x f hf hb hc (fieldErr_on h0) .bor (List.replicate f.nodes.length false) hrl i 2 (by omega)
    simp only [vFd] at hw2
    rw [show ((2 : Nat) : Int) = 2 from rfl] at hw2
    simp (disch := first | omega | with_unfolding_all rfl) [h2, hw2, hnl2]
    refine G_grdd (fun h3 => ?_) (fun h3 => ?_)
    · rw [decide_eq_true h3, Bool.true_and] at hs
      simp (disch := first | omega | with_unfolding_all rfl) [h3]
      refine G_br (fun h4 => ?_) (fun h4 => ?_)
      · rw [h4] at hs
        simp (disch := first | omega | with_unfolding_all rfl) [h4, hs, h2]
      · rw [h4] at hs
        have hn : anyN (shutAt f.nodes) 0 f.nodes.length = true := anyN_t (Nat.zero_le i) h2 hs
        simp (disch := first | omega | with_unfolding_all rfl) [h4, openB, hn]
    · rw [decide_eq_false h3, Bool.false_and] at hs
      simp (disch := first | omega | with_unfolding_all rfl) [h3, hs, h2]
  · have hn : anyN (shutAt f.nodes) 0 f.nodes.length = false := anyN_cut hz (by omega)
    simp (disch := first | omega | with_unfolding_all rfl) [h2, openB, h1, hn]
theorem opens_ok (f : Fd) (hf : f.nl ≠ .bor) (hb : f.nodes.length ≤ maxLen) : R tb 11 [vFd f] = some (.bool true) := by
  have hm : maxLen = 9223372036854775807 := rfl
  have h1 := large_ok f hf hb
  simp only [vFd] at h1
  refine R_of_G (F := pf11) rfl rfl rfl ?_
  simp (disch := first | omega | with_unfolding_all rfl) [pf11, env0_eq, h1]
  cases hl : large f
  case true => simp (disch := first | omega | with_unfolding_all rfl) [hl, known_ok]
  have hc := large_le hl
  have hb4 : f.nodes.length ≤ 400 := by
    simp only [large, Bool.or_eq_false_iff, decide_eq_false_iff_not] at hl
    omega
  have h2 := Open_ok f hf hb4 hc
  have h3 := refOpen_ok f hf hb4 hc
  simp only [vFd] at h2 h3
  by_cases h0 : fieldErr f = 0
  · simp (disch := first | omega | with_unfolding_all rfl) [hl, h2, h3, h0, known_ok]
  · simp (disch := first | omega | with_unfolding_all rfl) [hl, h2, h3, h0, known_ok]
end Go.Proofs.Ytmbknidfkddpfaa
