/- AirKeeps: whatever the input, the law returns true. -/
import Derived.Test.YtmbknidfkddpfaaRows
import Derived.Test.YtmbknidfkddpfaaAirKeep4
import Derived.WalkKit
import Derived.ProofKit
import Derived.OpenShut
import Derived.ShutString
import Derived.ChangeOld
import Derived.Below
import Derived.SizedLaws
set_option linter.unusedVariables false
set_option maxRecDepth 100000
namespace Go.Proofs.Ytmbknidfkddpfaa.AirKeeps
open Go.ChangeShapes Go.WideShapes Go.ChangeAt Go.RowKit Go.Proofs.Ytmbknidfkddpfaa.PM
theorem own : ownKnob Try.prog.godebug = none := by kernel_rfl
theorem laidOut : laidOutB Try.prog = true := by kernel_rfl
theorem shaped_nd {r : List PV} (h : Shaped [.int .i64, .lst 1 [.int .i64]] r) : ∃ a : Nd, r = Enc.enc a ∧ True := by
  simp only [Shaped] at h
  obtain ⟨_, _, rfl, h1, _, _, rfl, h2, rfl⟩ := h
  unfold ShapedC at h1
  obtain ⟨a, rfl, _⟩ := h1
  obtain ⟨ls, rfl, _, _⟩ := shaped_lst (α := Int) (fun r => shaped_int) rfl h2
  exact ⟨⟨a, .any, ls⟩, rfl, trivial⟩
theorem shaped_pl {r : List PV} (h : Shaped [.int .i64, .int .i64, .int .i64, .int .i64, .int .i64] r) : ∃ a : Pl, r = Enc.enc a ∧ True := by
  simp only [Shaped] at h
  obtain ⟨_, _, rfl, h1, _, _, rfl, h2, _, _, rfl, h3, _, _, rfl, h4, _, _, rfl, h5, rfl⟩ := h
  unfold ShapedC at h1 h2 h3 h4 h5
  obtain ⟨a, rfl, _⟩ := h1
  obtain ⟨b, rfl, _⟩ := h2
  obtain ⟨c, rfl, _⟩ := h3
  obtain ⟨d, rfl, _⟩ := h4
  obtain ⟨e, rfl, _⟩ := h5
  exact ⟨⟨a, b, c, d, e⟩, rfl, trivial⟩
theorem shaped_li {r : List PV} (h : Shaped [.lst 1 [.int .i64]] r) : ∃ a : Li, r = Enc.enc a ∧ (a.xs.length ≤ maxLen) := by
  obtain ⟨x, rfl, h'⟩ := shaped_one h
  obtain ⟨xs, rfl, h1, _⟩ := shaped_lst (α := Int) (fun r => shaped_int) rfl h'
  exact ⟨⟨.any, xs⟩, rfl, h1⟩
theorem lifted (os : Os) (started : os.Started) (H : Type) (enc : TypeId × Value → H) :
    ReturnsInHanded {} Try.checked os 12 .any (Rows.airKeepsSpec.pre6 enc Try.prog Try.f12 Rows.airKeepsRow.domain false) (Rows.airKeepsSpec.post enc Try.prog Try.f12 false true false false) := by
  refine returnsInHanded_of_change_sized (C := Try.checked) own started (by kernel_rfl) Try.func12
    (ChangeSpec.witness6 (enc := enc) (C := Try.checked) false ⟨#[], #[.agg #[.slice none 0 0, .int .i64 0, .slice none 0 0, .int .i64 0], .slice none 0 0], []⟩ 8 (by kernel_rfl) (by kernel_rfl) (by kernel_rfl) (by kernel_rfl)) ?_
  intro W base args ds gs before hval0 hW hcnd hsz0 _
  have hval : ∀ (j : Nat) t v, Try.f12.params[j]? = some t → args[j]? = some v → Value.okWide Try.prog W .any base t v := hval0
  have hW' := hW
  obtain ⟨p, q, hA0, hV, rfl, hfz, hnd⟩ := hW
  have hA : DataW.TrodAll enc Try.prog W 0 (fun _ => true) true Try.f12.params.toList args.toList ds p := hA0
  rw [Try.params12] at hA hval
  obtain ⟨v0, vs0, d0, ds0, p0, q0, hargs, rfl, rfl, h0, r0⟩ := trodAll_cons hA
  obtain ⟨v1, vs1, d1, ds1, p1, q1, rfl, rfl, rfl, h1, r1⟩ := trodAll_cons r0
  obtain ⟨rfl, rfl, rfl⟩ := trodAll_nil r1
  obtain rfl : args = #[v0, v1] := by cases args; simp_all
  obtain ⟨rfl, rfl⟩ := trodVars_none hV
  have lt0 : ∀ x ∈ p0, x.block < W.heap.size := by obtain ⟨m, hm⟩ := h0; exact DataW.trod_lt m _ _ _ hm
  obtain ⟨cs0, rfl, _⟩ := okWide_struct Try.underlying31 (hval 0 31 v0 rfl rfl)
  obtain ⟨x0, g0, s0⟩ := reads_agg (ss := [.lst 2 [.int .i64, .lst 1 [.int .i64]], .int .i64, .lst 5 [.int .i64, .int .i64, .int .i64, .int .i64, .int .i64], .int .i64]) 8 h0 (by rfl)
  simp only [Shaped] at s0
  obtain ⟨_, _, rfl, u1, _, _, rfl, u2, _, _, rfl, u3, _, _, rfl, u4, rfl⟩ := s0
  unfold ShapedC at u2 u4
  obtain ⟨m0, rfl, _⟩ := u2
  obtain ⟨m1, rfl, _⟩ := u4
  obtain ⟨ls, rfl, hll, _⟩ := shaped_lst (α := Nd) (fun r => shaped_nd) rfl u1
  obtain ⟨lp, rfl, hlp, _⟩ := shaped_lst (α := Pl) (fun r => shaped_pl) rfl u3
  have lt1 : ∀ x ∈ p1, x.block < W.heap.size := by obtain ⟨m, hm⟩ := h1; exact DataW.trod_lt m _ _ _ hm
  obtain ⟨a1, len1, cap1, rfl⟩ := okWide_slice Try.underlying55 (hval 1 55 v1 rfl rfl)
  obtain ⟨x1, g1, s1⟩ := reads_arg (s := .lst 1 [.lst 1 [.int .i64]]) 8 h1 (by rfl) rfl
  obtain ⟨la, rfl, hla, hlw⟩ := shaped_lst (α := Li) (Wf := fun l => l.xs.length ≤ maxLen) (fun r => shaped_li) rfl s1
  clear hA0 hval0 hsz0
  refine (calls_true (R_ok tb_ok (keeps_ok ⟨⟨.any, ls, m0⟩, .any, lp, m1⟩ (by simp) (by simp) hll hlp .any la hla hlw)) ⟨_, _, rfl, g0, ⟨_, _, rfl, g1, rfl⟩⟩).mono fun e W' ⟨he, bel⟩ => ?_
  subst he
  exact ⟨_, rfl, _, _, _, [], _, [], hW', trodAll_mk1 (shut_bool Try.underlying4 _), (trodAll_cons_mk (Below.trod laidOut (by kernel_rfl) (of_decide_eq_true (by kernel_rfl)) h0 bel lt0) (trodAll_cons_mk (Below.trod laidOut (by kernel_rfl) (of_decide_eq_true (by kernel_rfl)) h1 bel lt1) trodAll_mk0)), rfl, bel.frame _, fun h => by cases h⟩
theorem over : Rows.airKeepsRow.holds Try.pinned (OpenSpec.ofChange Rows.airKeepsSpec) :=
  OpenClaim.holds_of_wide 12 Try.f12 rfl rfl rfl rfl rfl rfl rfl ⟨rfl, rfl, rfl, rfl, rfl⟩ rfl rfl rfl rfl rfl (by kernel_rfl) Try.func12 (by kernel_rfl)
    (of_decide_eq_true (by kernel_rfl)) (by unfold Func.isWrapper; first | (rw [if_pos (by decide +kernel)]; kernel_rfl) | (rw [if_neg (by decide +kernel)]; exact ⟨rfl, rfl⟩))
    (fun os started H enc _ => lifted os started H enc)
theorem proved : Rows.AirKeepsSaid := over
end Go.Proofs.Ytmbknidfkddpfaa.AirKeeps
