/- Spans: what dropping a span leaves. -/
import Derived.Test.YtpnhdcjfhlcgoaaSpanHold
import Derived.Test.YtpnhdcjfhlcgoaaSpanDel
import Derived.Test.YtpnhdcjfhlcgoaaSpanCode3
set_option linter.unusedVariables false
set_option linter.unusedSimpArgs false
set_option maxHeartbeats 4000000
set_option maxRecDepth 20000
namespace Go.Proofs.Ytpnhdcjfhlcgoaa
open Go.Proofs.Ytpnhdcjfhlcgoaa.PM

/-- The table of what dropping and adding reach beside. -/
noncomputable def tbM (n2 : Nat → List PV → Hp → Option (PV × Hp)) : Table := ⟨[(62, pf62), (63, pf63), (44, pf44), (23, pf23), (46, pf46), (24, pg24), (7, pf7), (51, pf51), (28, pf28), (11, pf11), (9, pf9), (10, pf10)], fun f args => R tb f args,
  fun f args H => match RO tb f args H with | some r => some r | none => match natD f args H with | some r => some r | none => n2 f args H, fun _ _ => none, sqT⟩
variable {n2 : Nat → List PV → Hp → Option (PV × Hp)}
theorem M2 {f : Nat} {args : List PV} {r : PV} (h : R tb f args = some r) : R (tbM n2) f args = some r := R_nat h
theorem M_nat {f : Nat} {args : List PV} (hf : findF tb.fns f = none) : (tbM n2).nat f args = none := R_none rfl hf
theorem M_natO {f : Nat} {args : List PV} {H : Hp} (hf : findF tb.fns f = none) (hD : natD f args H = none) (h : n2 f args H = none) : (tbM n2).natO f args H = none := by
  show (match RO tb f args H with | some r => some r | none => match natD f args H with | some r => some r | none => n2 f args H) = none
  rw [RO_none rfl hf, hD, h]
theorem MD {args : List PV} {H H' : Hp} {r : PV} (h : natD 45 args H = some (r, H')) : RO (tbM n2) 45 args H = some (r, H') := by
  refine RO_nat ?_
  show (match RO tb 45 args H with | some r => some r | none => match natD 45 args H with | some r => some r | none => n2 45 args H) = _
  rw [RO_none rfl rfl, h]
theorem Mn {f : Nat} {args : List PV} {H H' : Hp} {r : PV} (hf : findF tb.fns f = none) (hD : natD f args H = none) (h : n2 f args H = some (r, H')) : RO (tbM n2) f args H = some (r, H') := by
  refine RO_nat ?_
  show (match RO tb f args H with | some r => some r | none => match natD f args H with | some r => some r | none => n2 f args H) = _
  rw [RO_none rfl hf, hD, h]

/-- A head of the span is there. -/
def isH (n : Int) (s : Sp) : Bool := decide (s.a = n) || decide (s.b = n)
def hdF (ss : List Sp) (n : Int) : Option Nat := firstN (fun i => isH n (spn ss i)) ss.length
def hdI (ss : List Sp) (n : Int) : Int := match hdF ss n with | some i => i | none => -1
theorem isH_ok (s : Sp) (n : Int) : R (tbM n2) 63 [vSpan s.k s.a s.b s.u, .pptr false [.int .i64 n] 0] = some (.bool (isH n s)) := by
  refine R_of_G (F := pf63) (M_nat rfl) rfl rfl ?_
  unfold isH
  by_cases c : s.a = n
  · simp (disch := first | omega | with_unfolding_all rfl) [pf63, env0_eq, c]
  · simp (disch := first | omega | with_unfolding_all rfl) [pf63, env0_eq, c]
theorem index_ok {snl : Nl} {ss : List Sp} (hss : ss.length ≤ 300) (n : Int) : R (tbM n2) 62 [lst snl ss, .clo (.func 63) [] [.pptr false [.int .i64 n] 0]] = some (.int .i64 (hdI ss n)) := by
  have h1 := fun s => isH_ok (n2 := n2) s n
  refine R_of_G (F := pf62) (M_nat rfl) rfl rfl ?_
  simp (disch := first | omega | with_unfolding_all rfl) [pf62, env0_eq]
  refine G_scan (fun i e h => h = [] ∧ get e 0 = lst snl ss ∧ get e 1 = .clo (.func 63) [] [.pptr false [.int .i64 n] 0] ∧ get e 7 = .int .i64 (ss.length : Int) ∧ get e 8 = .int .i64 (i : Int))
    (fun i => isH n (spn ss i)) ss.length 0 ?_ (Nat.zero_le _) ?_
  · simp
  · rintro i e h - hi hz ⟨rfl, g0, g1, g7, g8⟩
    simp (disch := first | omega | with_unfolding_all rfl) [g0, g1, g7, g8]
    refine G_brd (fun hlt => ?_) (fun hlt => ?_)
    · have h1 := h1 (spn ss i)
      have hI : isH n (spn ss i) = true → hdI ss n = (i : Int) := fun hb => by
        unfold hdI hdF
        rw [firstN_some hlt hz hb]
      generalize hp : isH n (spn ss i) = p at *
      simp (disch := first | omega | with_unfolding_all rfl) [hlt, spn_get, h1]
      cases p
      · simp (disch := first | omega | with_unfolding_all rfl) [hp, hlt]
      · simp (disch := first | omega | with_unfolding_all rfl) [hI rfl]
    · have hI : hdI ss n = -1 := by
        unfold hdI hdF
        rw [firstN_none (fun j hj => hz j (Nat.zero_le _) (by omega))]
      simp (disch := first | omega | with_unfolding_all rfl) [hI]
theorem head_ok {snl : Nl} {ss : List Sp} (hss : ss.length ≤ 300) (n : Int) : R (tbM n2) 44 [lst snl ss, .int .i64 n] = some (.int .i64 (hdI ss n)) := by
  have h1 := index_ok (n2 := n2) (snl := snl) hss n
  refine R_of_G (F := pf44) (M_nat rfl) rfl rfl ?_
  simp (disch := first | omega | with_unfolding_all rfl) [pf44, env0_eq, h1]
end Go.Proofs.Ytpnhdcjfhlcgoaa
