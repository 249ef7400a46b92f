/- TrainEnters: whatever the input, the law returns true. -/
import Derived.Test.YtiaeckidlmoohaaGreatRows
import Derived.Test.YtiaeckidlmoohaaGreatTrainEntA
import Derived.Test.YtiaeckidlmoohaaGreatTrainValA
import Derived.Test.YtiaeckidlmoohaaGreatTrainFacts
import Derived.WalkKit
import Derived.ProofKit
import Derived.OpenShut
import Derived.ShutString
import Derived.ChangeOld
import Derived.Below
import Derived.SizedLaws
set_option linter.unusedVariables false
set_option maxRecDepth 100000
namespace Go.Proofs.YtiaeckidlmoohaaGreat.TrainEnters
open Go.ChangeShapes Go.WideShapes Go.ChangeAt Go.RowKit Go.Proofs.YtiaeckidlmoohaaGreat.PM
theorem own : ownKnob Tryz.prog.godebug = none := by kernel_rfl
theorem laidOut : laidOutB Tryz.prog = true := by kernel_rfl
theorem lifted (os : Os) (started : os.Started) (H : Type) (enc : TypeId × Value → H) :
    ReturnsInHanded {} Tryz.checked os 15 .any (Rows.trainEntersSpec.pre6 enc Tryz.prog Tryz.f15 Rows.trainEntersRow.domain false) (Rows.trainEntersSpec.post enc Tryz.prog Tryz.f15 false true false false) := by
  refine returnsInHanded_of_change_sized (C := Tryz.checked) own started (by kernel_rfl) Tryz.func15
    (ChangeSpec.witness6 (enc := enc) (C := Tryz.checked) false ⟨#[], #[.agg #[.int .i64 0, .int .i64 0, .slice none 0 0, .slice none 0 0, .slice none 0 0, .slice none 0 0, .slice none 0 0], .int .i64 0, .agg #[.int .i64 0, .int .i64 0, .int .i64 0]], []⟩ 8 (by kernel_rfl) (by kernel_rfl) (by kernel_rfl) (by kernel_rfl)) ?_
  intro W base args ds gs before hval0 hW hcnd hsz0 _
  have hval : ∀ (j : Nat) t v, Tryz.f15.params[j]? = some t → args[j]? = some v → Value.okWide Tryz.prog W .any base t v := hval0
  have hW' := hW
  obtain ⟨p, q, hA0, hV, rfl, hfz, hnd⟩ := hW
  have hA : DataW.TrodAll enc Tryz.prog W 0 (fun _ => true) true Tryz.f15.params.toList args.toList ds p := hA0
  rw [Tryz.params15] at hA hval
  obtain ⟨v0, vs0, d0, ds0, p0, q0, hargs, rfl, rfl, h0, r0⟩ := trodAll_cons hA
  obtain ⟨v1, vs1, d1, ds1, p1, q1, rfl, rfl, rfl, h1, r1⟩ := trodAll_cons r0
  obtain ⟨v2, vs2, d2, ds2, p2, q2, rfl, rfl, rfl, h2, r2⟩ := trodAll_cons r1
  obtain ⟨rfl, rfl, rfl⟩ := trodAll_nil r2
  obtain rfl : args = #[v0, v1, v2] := by cases args; simp_all
  obtain ⟨rfl, rfl⟩ := trodVars_none hV
  have lt0 : ∀ x ∈ p0, x.block < W.heap.size := by obtain ⟨m, hm⟩ := h0; exact DataW.trod_lt m _ _ _ hm
  obtain ⟨cs0, rfl, _⟩ := okWide_struct Tryz.underlying30 (hval 0 30 v0 rfl rfl)
  obtain ⟨x0, g0, s0⟩ := reads_agg (ss := [.int .i64, .int .i64, .lst 1 [.int .i64], .lst 1 [.bool], .lst 4 [.int .i64, .int .i64, .int .i64, .int .i64], .lst 6 [.int .i64, .int .i64, .int .i64, .int .i64, .int .i64, .int .i64], .lst 5 [.int .i64, .int .i64, .int .i64, .lst 3 [.int .i64, .int .i64, .int .i64], .lst 3 [.int .i64, .int .i64, .int .i64]]]) 8 h0 (by rfl)
  simp only [Shaped] at s0
  obtain ⟨_, _, rfl, u1, _, _, rfl, u2, _, _, rfl, u3, _, _, rfl, u4, _, _, rfl, u5, _, _, rfl, u6, _, _, rfl, u7, rfl⟩ := s0
  unfold ShapedC at u1 u2
  obtain ⟨m0, rfl, _⟩ := u1
  obtain ⟨m1, rfl, _⟩ := u2
  obtain ⟨ss, rfl, _, _⟩ := shaped_lst (α := Int) (fun r => shaped_int) rfl u3
  obtain ⟨dd, rfl, _, _⟩ := shaped_lst (α := Bool) (fun r => shaped_bool) rfl u4
  obtain ⟨sgs, rfl, _, _⟩ := shaped_lst (α := Sg) (fun r => shaped_sg) rfl u5
  obtain ⟨jos, rfl, _, _⟩ := shaped_lst (α := Jo) (fun r => shaped_jo) rfl u6
  obtain ⟨trs, rfl, htl, htw⟩ := shaped_lst (α := Tr) (Wf := fun t => t.n1 = .any ∧ t.n2 = .any) (fun r => shaped_tr) rfl u7
  have lt1 : ∀ x ∈ p1, x.block < W.heap.size := by obtain ⟨m, hm⟩ := h1; exact DataW.trod_lt m _ _ _ hm
  obtain ⟨n1, rfl⟩ := okWide_int Tryz.underlying3 (hval 1 3 v1 rfl rfl)
  obtain ⟨x1, g1, s1⟩ := reads_arg (s := .int .i64) 8 h1 (by rfl) rfl
  unfold ShapedC at s1
  obtain ⟨k1, rfl, _⟩ := s1
  have lt2 : ∀ x ∈ p2, x.block < W.heap.size := by obtain ⟨m, hm⟩ := h2; exact DataW.trod_lt m _ _ _ hm
  obtain ⟨cs2, rfl, _⟩ := okWide_struct Tryz.underlying54 (hval 2 54 v2 rfl rfl)
  obtain ⟨x2, g2, s2⟩ := reads_agg (ss := [.int .i64, .int .i64, .int .i64]) 8 h2 (by rfl)
  simp only [Shaped] at s2
  obtain ⟨_, _, rfl, t1, _, _, rfl, t2, _, _, rfl, t3, rfl⟩ := s2
  unfold ShapedC at t1 t2 t3
  obtain ⟨a2, rfl, _⟩ := t1
  obtain ⟨b2, rfl, _⟩ := t2
  obtain ⟨c2, rfl, _⟩ := t3
  clear hA0 hval0 hsz0
  refine (calls_true (R_ok tc_ok (law15_ok ⟨⟨m0, m1, .any, ss, .any, dd⟩, .any, sgs, .any, jos, .any, trs⟩ ⟨⟨rfl, rfl, rfl, rfl, rfl⟩, htl, htw⟩ k1 ⟨a2, b2, c2⟩)) ⟨_, _, rfl, g0, ⟨_, _, rfl, g1, ⟨_, _, rfl, g2, rfl⟩⟩⟩).mono fun e W' ⟨he, bel⟩ => ?_
  subst he
  exact ⟨_, rfl, _, _, _, [], _, [], hW', trodAll_mk1 (shut_bool Tryz.underlying4 _), (trodAll_cons_mk (Below.trod laidOut (by kernel_rfl) (of_decide_eq_true (by kernel_rfl)) h0 bel lt0) (trodAll_cons_mk (Below.trod laidOut (by kernel_rfl) (of_decide_eq_true (by kernel_rfl)) h1 bel lt1) (trodAll_cons_mk (Below.trod laidOut (by kernel_rfl) (of_decide_eq_true (by kernel_rfl)) h2 bel lt2) trodAll_mk0))), rfl, bel.frame _, fun h => by cases h⟩
theorem b10 : (Rows.trainEntersRow.inPlace == Tryz.pinned.checked.prog.inPlace 15) = true := by kernel_rfl
theorem b11 : (Rows.trainEntersRow.unfollowed == Tryz.pinned.checked.prog.unfollowed 15) = true := by kernel_rfl
theorem b12 : (Rows.trainEntersRow.recurses == Tryz.pinned.checked.prog.recurses 15) = true := by kernel_rfl
theorem b13 : (Rows.trainEntersRow.named == Tryz.pinned.checked.prog.varsNamed 15) = true := by kernel_rfl
theorem closed : joinedFacts Tryz.pinned.checked.prog 15 Tryz.f15 Rows.trainEntersSpec Rows.trainEntersRow = true :=
  joined_parts (by kernel_rfl) g2 g3 (by kernel_rfl) (by kernel_rfl) (by kernel_rfl) g7 (by kernel_rfl) g9 b10 b11 b12 b13 (by kernel_rfl) (by kernel_rfl) (by kernel_rfl) (by kernel_rfl) (by kernel_rfl) (by kernel_rfl) (by kernel_rfl) (by kernel_rfl) (by kernel_rfl) g23 (by kernel_rfl) g25 g26 g27 g28 (by kernel_rfl) (by kernel_rfl) (by kernel_rfl) (by kernel_rfl) (by kernel_rfl)
theorem over : Rows.trainEntersRow.holds Tryz.pinned (OpenSpec.ofChange Rows.trainEntersSpec) :=
  OpenClaim.holds_of_wide 15 Tryz.f15 rfl rfl rfl rfl rfl rfl rfl ⟨rfl, rfl, rfl, rfl, rfl⟩ rfl rfl rfl rfl rfl (by kernel_rfl) Tryz.func15 closed
    (of_decide_eq_true (by kernel_rfl)) (by unfold Func.isWrapper; first | (rw [if_pos (by decide +kernel)]; kernel_rfl) | (rw [if_neg (by decide +kernel)]; exact ⟨rfl, rfl⟩))
    (fun os started H enc _ => lifted os started H enc)
theorem proved : Rows.TrainEntersSaid := over
end Go.Proofs.YtiaeckidlmoohaaGreat.TrainEnters
