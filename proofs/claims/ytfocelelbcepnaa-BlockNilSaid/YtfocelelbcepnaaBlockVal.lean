/- Blocks: which signals are right. -/
import Derived.Test.YtfocelelbcepnaaBlockSig
set_option linter.unusedVariables false
set_option linter.unusedSimpArgs false
set_option maxHeartbeats 4000000
set_option maxRecDepth 20000
namespace Go.Proofs.Ytfocelelbcepnaa
open Go.Proofs.Ytfocelelbcepnaa.PM

def badK (ls : List Sg) (i : Nat) : Bool := match ls[i]? with
  | none => false
  | some l => decide (l.k < 0) || (decide (5 < l.k) || (decide (0 < i) && !(match ls[i - 1]? with | some p => decide (ltS p l) | none => true)))
def badP (r : Rl) (ls : List Sg) (i : Nat) : Bool := match ls[i]? with
  | none => false
  | some l => !lie r l.t l.p || !has l.p l.o
def valErr (r : Rl) (ls : List Sg) : Int :=
  if railErr r = 0 then (if anyN (badK ls) 0 ls.length = true ∨ 300 < ls.length then 1 else if anyN (badP r ls) 0 ls.length then 2 else 0) else railErr r

theorem railErr_cases (r : Rl) : railErr r = 0 ∨ railErr r = 1 := by
  unfold railErr; split
  · exact .inr rfl
  · split
    · exact .inr rfl
    · exact .inl rfl
theorem validate_ok (r : Rl) (nl : Nl) (ls : List Sg) (hb : r.s.length ≤ 3000) (hl : ls.length ≤ 10000) : R tb 19 [vR r, lst nl ls] = some (.int .i64 (valErr r ls)) := by
  have hrv := railV_ok r hb
  refine R_of_G (F := pf19) rfl rfl rfl ?_
  simp (disch := first | omega | with_unfolding_all rfl) [pf19, env0_eq, hrv]
  by_cases h0 : railErr r = 0
  case neg => simp (disch := first | omega | with_unfolding_all rfl) [h0, valErr]
  simp (disch := first | omega | with_unfolding_all rfl) [h0]
  have g := good_of h0
  obtain ⟨p0, hp0⟩ : ∃ p0, p0 = PV.pptr (!r.n1 != Nl.bor || !r.n2 != Nl.bor) [.int .i64 r.w, .int .i64 r.h, lst r.n1 r.s, lst r.n2 r.d] 0 := ⟨_, rfl⟩
  refine G_scanC [1, 2, 15, 16] 17 (badK ls) ls.length 0 (by simp) (Nat.zero_le _) ?_
  rintro i e - hi hz hk g17
  simp at hk
  simp (disch := first | omega | with_unfolding_all rfl) [hk, g17]
  refine G_brd (fun h7 => ?_) (fun h7 => ?_)
  · have hil : i < ls.length := by omega
    obtain ⟨x, hx⟩ : ∃ x, x = ls[i] := ⟨_, rfl⟩
    have bad : badK ls i = true → valErr r ls = 1 := fun hb => by
      have := anyN_t (n := ls.length) (Nat.zero_le i) hil hb
      simp [valErr, h0, this]
    have bk1 : badK ls i = (decide (x.k < 0) || (decide (5 < x.k) || (decide (0 < i) && !(match ls[i - 1]? with | some p => decide (ltS p x) | none => true)))) := by
      simp only [badK, List.getElem?_eq_getElem hil, ← hx]
    simp (disch := first | omega | with_unfolding_all rfl) [hk, g17, h7, ← hx]
    by_cases a1 : x.k < 0
    · simp (disch := first | omega | with_unfolding_all rfl) [a1, bad (by simp [bk1, a1])]
    by_cases a2 : 6 ≤ x.k
    · simp (disch := first | omega | with_unfolding_all rfl) [a1, a2, bad (by simp [bk1]; omega)]
    by_cases a3 : 0 < i
    · have him : i - 1 < ls.length := by omega
      have hci : ((i : Int) - 1) = ((i - 1 : Nat) : Int) := by omega
      have hci2 : (0 : Int) < (i : Int) := by omega
      have hcm := compare_ok ls[i - 1] x
      simp only [vS] at hcm
      have hcl := cmpS_lt ls[i - 1] x
      simp (disch := first | omega | with_unfolding_all rfl) [hk, g17, a1, a2, a3, hci, hcm, ← hx]
      by_cases a4 : cmpS ls[i - 1] x < 0
      · have a5 : ¬ 0 ≤ cmpS ls[i - 1] x := by omega
        simp (disch := first | omega | with_unfolding_all rfl) [hk, g17, a5, bk1, a1, him, hcl.1 a4]
        omega
      · have a5 : 0 ≤ cmpS ls[i - 1] x := by omega
        have a6 : ¬ ltS ls[i - 1] x := fun q => a4 (hcl.2 q)
        simp (disch := first | omega | with_unfolding_all rfl) [hk, g17, a5, bad (by rw [bk1, List.getElem?_eq_getElem him]; simp only [a6, a3]; simp)]
    · obtain rfl : i = 0 := by omega
      simp (disch := first | omega | with_unfolding_all rfl) [hk, g17, a1, a2, bk1]
      omega
  · have hb1 : anyN (badK ls) 0 ls.length = false := anyN_f fun j h1 h2 => hz j h1 (by omega)
    simp (disch := first | omega | with_unfolding_all rfl) [hk, g17, h7]
    refine G_brd (fun h8 => ?_) (fun h8 => ?_)
    · have : 300 < ls.length := by omega
      simp (disch := first | omega | with_unfolding_all rfl) [valErr, h0, this]
    simp (disch := first | omega | with_unfolding_all rfl) [hk, h8]
    refine G_scanC [2, 48, 49] 50 (badP r ls) ls.length 0 (by simp) (Nat.zero_le _) ?_
    rintro i e - hi hz hk g50
    simp at hk
    simp (disch := first | omega | with_unfolding_all rfl) [hk, g50]
    refine G_brd (fun h7 => ?_) (fun h7 => ?_)
    · have hil : i < ls.length := by omega
      obtain ⟨x, hx⟩ : ∃ x, x = ls[i] := ⟨_, rfl⟩
      have hbl : ¬ 300 < ls.length := by omega
      have bad : badP r ls i = true → valErr r ls = 2 := fun hb => by
        have := anyN_t (n := ls.length) (Nat.zero_le i) hil hb
        simp [valErr, h0, hb1, hbl, this]
      have bp1 : badP r ls i = (!lie r x.t x.p || !has x.p x.o) := by simp only [badP, List.getElem?_eq_getElem hil, ← hx]
      have hlie := lies_ok g x.t x.p
      simp (disch := first | omega | with_unfolding_all rfl) [hk, g50, h7, ← hx, hlie]
      cases a1 : lie r x.t x.p
      · simp (disch := first | omega | with_unfolding_all rfl) [a1, bad (by simp [bp1, a1])]
      cases a2 : has x.p x.o
      · simp (disch := first | omega | with_unfolding_all rfl) [a1, a2, end_ok, bad (by simp [bp1, a2])]
      · simp (disch := first | omega | with_unfolding_all rfl) [hk, g50, a1, a2, end_ok, bp1]
    · have hb2 : anyN (badP r ls) 0 ls.length = false := anyN_f fun j h1 h2 => hz j h1 (by omega)
      have hbl : ¬ 300 < ls.length := by omega
      simp (disch := first | omega | with_unfolding_all rfl) [hk, g50, h7, valErr, h0, hb1, hb2, hbl]
theorem refValidate_ok (r : Rl) (nl : Nl) (ls : List Sg) (hb : r.s.length ≤ 3000) (hl : ls.length ≤ 10000) : R tb 18 [vR r, lst nl ls] = some (.int .i64 (valErr r ls)) := by
  have hrv := refRailV_ok r hb
  refine R_of_G (F := pf18) rfl rfl rfl ?_
  simp (disch := first | omega | with_unfolding_all rfl) [pf18, env0_eq, hrv]
  by_cases h0 : railErr r = 0
  case neg => simp (disch := first | omega | with_unfolding_all rfl) [h0, valErr]
  simp (disch := first | omega | with_unfolding_all rfl) [h0]
  have g := good_of h0
  refine G_brd (fun h8 => ?_) (fun h8 => ?_)
  · have : 300 < ls.length := by omega
    simp (disch := first | omega | with_unfolding_all rfl) [valErr, h0, this]
  simp (disch := first | omega | with_unfolding_all rfl) [h8]
  refine G_scanC [1, 2] 6 (badK ls) ls.length 0 (by simp) (Nat.zero_le _) ?_
  rintro i e - hi hz hk g6
  simp at hk
  simp (disch := first | omega | with_unfolding_all rfl) [hk, g6]
  refine G_brd (fun h7 => ?_) (fun h7 => ?_)
  · have hil : i < ls.length := by omega
    obtain ⟨x, hx⟩ : ∃ x, x = ls[i] := ⟨_, rfl⟩
    have bad : badK ls i = true → valErr r ls = 1 := fun hb => by
      have := anyN_t (n := ls.length) (Nat.zero_le i) hil hb
      simp [valErr, h0, this]
    have bk1 : badK ls i = (decide (x.k < 0) || (decide (5 < x.k) || (decide (0 < i) && !(match ls[i - 1]? with | some p => decide (ltS p x) | none => true)))) := by
      simp only [badK, List.getElem?_eq_getElem hil, ← hx]
    simp (disch := first | omega | with_unfolding_all rfl) [hk, g6, h7, ← hx]
    by_cases a1 : x.k < 0
    · simp (disch := first | omega | with_unfolding_all rfl) [a1, ← hx, bad (by simp [bk1, a1])]
    by_cases a2 : 5 < x.k
    · simp (disch := first | omega | with_unfolding_all rfl) [a1, a2, ← hx, bad (by simp [bk1]; omega)]
    by_cases a3 : 0 < i
    · have him : i - 1 < ls.length := by omega
      have hci : ((i : Int) - 1) = ((i - 1 : Nat) : Int) := by omega
      have hci2 : (0 : Int) < (i : Int) := by omega
      have hcm := less_ok ls[i - 1] x
      simp only [vS] at hcm
      simp (disch := first | omega | with_unfolding_all rfl) [hk, g6, a1, a2, a3, hci, hcm, ← hx]
      cases a4 : decide (ltS ls[i - 1] x)
      · have a6 : ¬ ltS ls[i - 1] x := by simpa only [decide_eq_false_iff_not] using a4
        simp (disch := first | omega | with_unfolding_all rfl) [hk, g6, a6, bad (by rw [bk1, List.getElem?_eq_getElem him]; simp only [a6, a3]; simp)]
      · have a6 : ltS ls[i - 1] x := by simpa only [decide_eq_true_eq] using a4
        simp (disch := first | omega | with_unfolding_all rfl) [hk, g6, bk1, a1, a2, him, a6]
    · obtain rfl : i = 0 := by omega
      simp (disch := first | omega | with_unfolding_all rfl) [hk, g6, a1, a2, bk1, ← hx]
  · have hb1 : anyN (badK ls) 0 ls.length = false := anyN_f fun j h1 h2 => hz j h1 (by omega)
    simp (disch := first | omega | with_unfolding_all rfl) [hk, g6, h7]
    refine G_scanC [1, 2] 7 (badP r ls) ls.length 0 (by simp) (Nat.zero_le _) ?_
    rintro i e - hi hz hk g7
    simp at hk
    simp (disch := first | omega | with_unfolding_all rfl) [hk, g7]
    refine G_brd (fun h7 => ?_) (fun h7 => ?_)
    · have hil : i < ls.length := by omega
      obtain ⟨x, hx⟩ : ∃ x, x = ls[i] := ⟨_, rfl⟩
      have hbl : ¬ 300 < ls.length := by omega
      have bad : badP r ls i = true → valErr r ls = 2 := fun hb => by
        have := anyN_t (n := ls.length) (Nat.zero_le i) hil hb
        simp [valErr, h0, hb1, hbl, this]
      have bp1 : badP r ls i = (!lie r x.t x.p || !has x.p x.o) := by simp only [badP, List.getElem?_eq_getElem hil, ← hx]
      have hlie := refLies_ok g x.t x.p
      simp (disch := first | omega | with_unfolding_all rfl) [hk, g7, h7, ← hx, hlie]
      cases a1 : lie r x.t x.p
      · simp (disch := first | omega | with_unfolding_all rfl) [a1, ← hx, bad (by simp [bp1, a1])]
      cases a2 : has x.p x.o
      · simp (disch := first | omega | with_unfolding_all rfl) [hk, g7, a1, a2, ← hx, has_ok, bad (by simp [bp1, a2])]
      · simp (disch := first | omega | with_unfolding_all rfl) [hk, g7, a1, a2, ← hx, has_ok, bp1]
    · have hb2 : anyN (badP r ls) 0 ls.length = false := anyN_f fun j h1 h2 => hz j h1 (by omega)
      have hbl : ¬ 300 < ls.length := by omega
      simp (disch := first | omega | with_unfolding_all rfl) [hk, g7, h7, valErr, h0, hb1, hb2, hbl]
end Go.Proofs.Ytfocelelbcepnaa
