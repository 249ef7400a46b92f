/- BlockShowsLess: whatever the input, the law returns true. -/
import Derived.Test.YtfocelelbcepnaaRows
import Derived.Test.YtfocelelbcepnaaBlockShowB
import Derived.Test.YtfocelelbcepnaaBlockOk
import Derived.WalkKit
import Derived.ProofKit
import Derived.OpenShut
import Derived.ShutString
import Derived.ChangeOld
import Derived.Below
import Derived.SizedLaws
set_option linter.unusedVariables false
set_option maxRecDepth 100000
namespace Go.Proofs.Ytfocelelbcepnaa.BlockShowsLess
open Go.ChangeShapes Go.WideShapes Go.ChangeAt Go.RowKit Go.Proofs.Ytfocelelbcepnaa.PM
theorem own : ownKnob Try.prog.godebug = none := by kernel_rfl
theorem laidOut : laidOutB Try.prog = true := by kernel_rfl
theorem shaped_sg {r : List PV} (h : Shaped [.int .i64, .int .i64, .int .i64, .int .i64] r) : ∃ a : Sg, r = Enc.enc a ∧ True := by
  simp only [Shaped] at h
  obtain ⟨_, _, rfl, h1, _, _, rfl, h2, _, _, rfl, h3, _, _, rfl, h4, rfl⟩ := h
  unfold ShapedC at h1 h2 h3 h4
  obtain ⟨a, rfl, _⟩ := h1
  obtain ⟨b, rfl, _⟩ := h2
  obtain ⟨c, rfl, _⟩ := h3
  obtain ⟨d, rfl, _⟩ := h4
  exact ⟨⟨a, b, c, d⟩, rfl, trivial⟩
theorem lifted (os : Os) (started : os.Started) (H : Type) (enc : TypeId × Value → H) :
    ReturnsInHanded {} Try.checked os 15 .any (Rows.blockShowsLessSpec.pre6 enc Try.prog Try.f15 Rows.blockShowsLessRow.domain false) (Rows.blockShowsLessSpec.post enc Try.prog Try.f15 false true false false) := by
  refine returnsInHanded_of_change_sized (C := Try.checked) own started (by kernel_rfl) Try.func15
    (ChangeSpec.witness6 (enc := enc) (C := Try.checked) false ⟨#[], #[.agg #[.int .i64 0, .int .i64 0, .slice none 0 0, .slice none 0 0], .slice none 0 0, .slice none 0 0, .slice none 0 0], []⟩ 8 (by kernel_rfl) (by kernel_rfl) (by kernel_rfl) (by kernel_rfl)) ?_
  intro W base args ds gs before hval0 hW hcnd hsz0 _
  have hval : ∀ (j : Nat) t v, Try.f15.params[j]? = some t → args[j]? = some v → Value.okWide Try.prog W .any base t v := hval0
  have hW' := hW
  obtain ⟨p, q, hA0, hV, rfl, hfz, hnd⟩ := hW
  have hA : DataW.TrodAll enc Try.prog W 0 (fun _ => true) true Try.f15.params.toList args.toList ds p := hA0
  rw [Try.params15] at hA hval
  obtain ⟨v0, vs0, d0, ds0, p0, q0, hargs, rfl, rfl, h0, r0⟩ := trodAll_cons hA
  obtain ⟨v1, vs1, d1, ds1, p1, q1, rfl, rfl, rfl, h1, r1⟩ := trodAll_cons r0
  obtain ⟨v2, vs2, d2, ds2, p2, q2, rfl, rfl, rfl, h2, r2⟩ := trodAll_cons r1
  obtain ⟨v3, vs3, d3, ds3, p3, q3, rfl, rfl, rfl, h3, r3⟩ := trodAll_cons r2
  obtain ⟨rfl, rfl, rfl⟩ := trodAll_nil r3
  obtain rfl : args = #[v0, v1, v2, v3] := by cases args; simp_all
  obtain ⟨rfl, rfl⟩ := trodVars_none hV
  have lt0 : ∀ x ∈ p0, x.block < W.heap.size := by obtain ⟨m, hm⟩ := h0; exact DataW.trod_lt m _ _ _ hm
  obtain ⟨cs0, rfl, _⟩ := okWide_struct Try.underlying25 (hval 0 25 v0 rfl rfl)
  obtain ⟨x0, g0, s0⟩ := reads_agg (ss := [.int .i64, .int .i64, .lst 1 [.int .i64], .lst 1 [.bool]]) 8 h0 (by rfl)
  simp only [Shaped] at s0
  obtain ⟨_, _, rfl, u1, _, _, rfl, u2, _, _, rfl, u3, _, _, rfl, u4, rfl⟩ := s0
  unfold ShapedC at u1 u2
  obtain ⟨m0, rfl, _⟩ := u1
  obtain ⟨m1, rfl, _⟩ := u2
  obtain ⟨ss, rfl, _, _⟩ := shaped_lst (α := Int) (fun r => shaped_int) rfl u3
  obtain ⟨dd, rfl, _, _⟩ := shaped_lst (α := Bool) (fun r => shaped_bool) rfl u4
  have lt1 : ∀ x ∈ p1, x.block < W.heap.size := by obtain ⟨m, hm⟩ := h1; exact DataW.trod_lt m _ _ _ hm
  obtain ⟨a1, len1, cap1, rfl⟩ := okWide_slice Try.underlying26 (hval 1 26 v1 rfl rfl)
  obtain ⟨x1, g1, s1⟩ := reads_arg (s := .lst 4 [.int .i64, .int .i64, .int .i64, .int .i64]) 8 h1 (by rfl) rfl
  obtain ⟨ls, rfl, _, _⟩ := shaped_lst (α := Sg) (fun r => shaped_sg) rfl s1
  have lt2 : ∀ x ∈ p2, x.block < W.heap.size := by obtain ⟨m, hm⟩ := h2; exact DataW.trod_lt m _ _ _ hm
  obtain ⟨a2, len2, cap2, rfl⟩ := okWide_slice Try.underlying22 (hval 2 22 v2 rfl rfl)
  obtain ⟨x2, g2, s2⟩ := reads_arg (s := .lst 1 [.int .i64]) 8 h2 (by rfl) rfl
  obtain ⟨xs2, rfl, _, _⟩ := shaped_lst (α := Int) (fun r => shaped_int) rfl s2
  have lt3 : ∀ x ∈ p3, x.block < W.heap.size := by obtain ⟨m, hm⟩ := h3; exact DataW.trod_lt m _ _ _ hm
  obtain ⟨a3, len3, cap3, rfl⟩ := okWide_slice Try.underlying22 (hval 3 22 v3 rfl rfl)
  obtain ⟨x3, g3, s3⟩ := reads_arg (s := .lst 1 [.int .i64]) 8 h3 (by rfl) rfl
  obtain ⟨xs3, rfl, _, _⟩ := shaped_lst (α := Int) (fun r => shaped_int) rfl s3
  clear hA0 hval0 hsz0
  refine (calls_true (R_ok tb_ok (law15_ok ⟨m0, m1, .any, ss, .any, dd⟩ ls xs2 xs3)) ⟨_, _, rfl, g0, ⟨_, _, rfl, g1, ⟨_, _, rfl, g2, ⟨_, _, rfl, g3, rfl⟩⟩⟩⟩).mono fun e W' ⟨he, bel⟩ => ?_
  subst he
  exact ⟨_, rfl, _, _, _, [], _, [], hW', trodAll_mk1 (shut_bool Try.underlying4 _), (trodAll_cons_mk (Below.trod laidOut (by kernel_rfl) (of_decide_eq_true (by kernel_rfl)) h0 bel lt0) (trodAll_cons_mk (Below.trod laidOut (by kernel_rfl) (of_decide_eq_true (by kernel_rfl)) h1 bel lt1) (trodAll_cons_mk (Below.trod laidOut (by kernel_rfl) (of_decide_eq_true (by kernel_rfl)) h2 bel lt2) (trodAll_cons_mk (Below.trod laidOut (by kernel_rfl) (of_decide_eq_true (by kernel_rfl)) h3 bel lt3) trodAll_mk0)))), rfl, bel.frame _, fun h => by cases h⟩
theorem over : Rows.blockShowsLessRow.holds Try.pinned (OpenSpec.ofChange Rows.blockShowsLessSpec) :=
  OpenClaim.holds_of_wide 15 Try.f15 rfl rfl rfl rfl rfl rfl rfl ⟨rfl, rfl, rfl, rfl, rfl⟩ rfl rfl rfl rfl rfl (by kernel_rfl) Try.func15 (by kernel_rfl)
    (of_decide_eq_true (by kernel_rfl)) (by unfold Func.isWrapper; first | (rw [if_pos (by decide +kernel)]; kernel_rfl) | (rw [if_neg (by decide +kernel)]; exact ⟨rfl, rfl⟩))
    (fun os started H enc _ => lifted os started H enc)
theorem proved : Rows.BlockShowsLessSaid := over
end Go.Proofs.Ytfocelelbcepnaa.BlockShowsLess
