/- Blocks: a copy of no signals, walked. -/
import Derived.Test.YtfocelelbcepnaaBlockDel
import Derived.WalkKit
import Derived.Deep.LoopGhost
import Derived.Lib.Walk
import Derived.Sort.Grow
import Derived.Shelf.RegionOpenPlain
set_option linter.unusedVariables false
set_option linter.unusedSimpArgs false
namespace Go.Proofs.Ytfocelelbcepnaa
open Go.Shelf Go.RowKit Go.Lib Go.Sort
set_option maxHeartbeats 2000000 in
set_option maxRecDepth 100000 in
theorem clone_walk_nil (c : Nat) (w : World) : Calls Try.prog 63 #[.slice none 0 c] w fun e w' => e = .returned (.slice none 0 0) ∧ w' = w := by
  have hq : ∀ w, (binOp .eql 26 (.slice none 0 c) (.slice none 0 0)).run Try.prog w = .ok (.bool true) w := by
    intro w
    have h1 : (Op.equal 26 (.slice none 0 c) (.slice none 0 0)).run Try.prog w = .ok true w := PM.run_equalIn_nil_right 9999 Try.underlying26 _ _ _ _ _ _
    simp only [binOp]
    simp
    rw [h1]
    rfl
  go_enter Try.func63, Try.ntmps63
  go_wp2
  go_ret
  exact ⟨rfl, rfl⟩
set_option maxHeartbeats 2000000 in
set_option maxRecDepth 100000 in
theorem clone_walk_some (A : Addr) (c : Nat) (w : World) : Calls Try.prog 63 #[.slice (some A) 0 c] w fun e w' => ∃ a, e = .returned (.slice a 0 0) ∧ ∃ os, w' = Go.Sort.grow w os := by
  have hq : ∀ w, (binOp .eql 26 (.slice (some A) 0 c) (.slice none 0 0)).run Try.prog w = .ok (.bool false) w := by
    intro w
    have h1 : (Op.equal 26 (.slice (some A) 0 c) (.slice none 0 0)).run Try.prog w = .ok false w := PM.run_equalIn_nil_right 9999 Try.underlying26 _ _ _ _ _ _
    simp only [binOp]
    simp
    rw [h1]
    rfl
  have t34 := Try.underlying26
  have i26 : (Try.prog.info? 45).map (fun i => (i.zero, i.size, i.bytes)) = some (some (Value.agg #[.int .i64 0, .int .i64 0, .int .i64 0, .int .i64 0]), 4, 32) := by kernel_rfl
  obtain ⟨i0, hi0, hz0, hz1, hz2⟩ := info_parts i26
  have happ : ∀ ao ty w, (Builtin.append_ #[26, 26] ty #[.slice ao 0 0, .slice (some A) 0 c]).run Try.prog w = .ok (.slice ao 0 0) w := fun ao ty w => PM.run_append_empty t34 hi0 ao _ 0 0 c (Nat.le_refl _) w
  clear hz0 hz1 hz2 hi0 i26
  go_enter Try.func63, Try.ntmps63
  go_wp2
  go_ret
  exact ⟨some ⟨w.heap.size, 0, none⟩, rfl, #[.cells #[] 45], Go.Sort.alloc_eq_grow _ _⟩
open Go.Proofs.Ytfocelelbcepnaa.PM
set_option maxRecDepth 20000 in
theorem natC_ok : ∀ args H r H', natC args H = some (r, H') → OpenOk Try.prog 63 args H r H' := by
  intro args H r H' h
  unfold natC at h
  split at h
  case h_2 => cases h
  rename_i nl
  simp only [Option.some.injEq, Prod.mk.injEq] at h
  obtain ⟨rfl, rfl⟩ := h
  refine ⟨⟨Try.f63, rfl, by decide, rfl⟩, fun K vs hH hr => ?_⟩
  obtain ⟨ao, c, rfl⟩ : ∃ ao c, vs = #[.slice ao 0 c] := by
    obtain ⟨v, l, e, hv, hl⟩ := hr
    obtain ⟨_, _, ao, n, c, rfl, hn, _⟩ := hv
    have : n = 0 := by simp at hn; omega
    subst this
    refine ⟨ao, c, ?_⟩
    apply Array.ext'
    rw [e, show l = [] from hl]
  cases ao with
  | none =>
    refine (clone_walk_nil c K.w).mono ?_
    rintro e w' ⟨rfl, rfl⟩
    exact ⟨_, K, rfl, rfl, Ext.refl _ _, hH, by decide, by simp [PV.cleanL], none, 0, 0, rfl, rfl, rfl, .inl rfl⟩
  | some A =>
    refine (clone_walk_some A c K.w).mono ?_
    rintro e w' ⟨a, rfl, os, rfl⟩
    obtain ⟨hH2, hX2⟩ := hH.grow0 (w' := Go.Sort.grow K.w os) ⟨rfl, rfl, rfl, by simp [Go.Sort.grow], fun k hk => by
      simp only [Go.Sort.grow]
      rw [Array.getElem?_append_left hk]⟩
    exact ⟨_, _, rfl, rfl, hX2, hH2, by decide, by simp [PV.cleanL], a, 0, 0, rfl, rfl, rfl, .inl rfl⟩
end Go.Proofs.Ytfocelelbcepnaa
