/- Several texts in one: BlockDel, BlockClo, BlockLen, BlockIns, BlockIns2. -/
import Derived.Test.YtfocelelbcepnaaBlockTab
import Derived.Test.YtfocelelbcepnaaPmNineteen
import Derived.Shelf.RegionOpenPlain
import Derived.WalkKit
import Derived.Deep.LoopGhost
import Derived.Deep.RegionLaw
import Derived.Deep.MidRow
import Derived.Lib.Walk
import Derived.Sort.WalkB12
import Derived.Lib.SliceRun
import Derived.Sort.Grow
import Derived.Lib.Overlaps
import Derived.Lib.AppendZerosOnto
import Derived.Laws.Externs
import Derived.Laws.IdiomCopy
import Derived.Shelf.Spec.SlicesInsert
section
set_option linter.unusedVariables false
set_option linter.unusedSimpArgs false
namespace Go.Proofs.Ytfocelelbcepnaa
open Go.Shelf Go.RowKit Go.Lib Go.Sort Go.Proofs.Ytfocelelbcepnaa.PM

theorem zeroCells4 (n : Nat) : (Builtin.zeroCells #[Value.int .i64 0, .int .i64 0, .int .i64 0, .int .i64 0] n).toList = List.replicate (n * 4) (.int .i64 0) := by
  apply List.ext_getElem
  · simp [Builtin.zeroCells]
  · intro i h1 h2
    simp [Builtin.zeroCells]
    have : i % 4 = 0 ∨ i % 4 = 1 ∨ i % 4 = 2 ∨ i % 4 = 3 := by omega
    rcases this with h | h | h | h <;> simp [h]
theorem run_clear4 (w : World) (ty : TypeId) (b o n c : Nat) (hn : 0 < n) (hc : ∀ j, j < n * 4 → (w.cell? ⟨b, o + j, none⟩).isSome = true) (hf : ∀ j, j < n * 4 → w.frozen? ⟨b, o + j, none⟩ = false) :
    (Builtin.clear_ #[26] ty #[.slice (some ⟨b, o, none⟩) n c]).run Try.prog w = .ok (.tuple #[]) (w.setCells b o (List.replicate (n * 4) (.int .i64 0))) := by
  have hst := run_storeCells_cells (P := Try.prog) b o (List.replicate (n * 4) (Value.int .i64 0)) 0 w (by simpa using hc) (by simpa using hf) (by intro v hv'; rw [List.eq_of_mem_replicate hv']; rfl)
  simp only [Nat.add_zero] at hst
  obtain ⟨m, rfl⟩ : ∃ m, n = m + 1 := ⟨n - 1, by omega⟩
  have hzc := zeroCells4 (m + 1)
  simp [Builtin.clear_, run_underlying (by exact Try.underlying26), Try.zeroValue45, hzc, hst, Value.cells]

set_option maxHeartbeats 4000000 in
set_option maxRecDepth 1000000 in
theorem del_walk (g i j cap n : Nat) (cs : List Value) (w : World) (hcs : cs.length = n * 4) (hcell : ∀ t, t < n * 4 → w.cell? ⟨g, t, none⟩ = some (cs.getD t default)) (hfr : ∀ t, t < n * 4 → w.frozen? ⟨g, t, none⟩ = false)
    (hone : ∀ u ∈ cs, u.oneCell' = true) (hcap : n ≤ cap) (hlt : i < j) (hj : j ≤ n) :
    Calls Try.prog 62 #[.slice (some ⟨g, 0, none⟩) n cap, .int .i64 i, .int .i64 j] w fun e w' => e = .returned (.slice (some ⟨g, 0, none⟩) (i + (n - j)) cap) ∧
      ∃ W1, W1 = w.drew.setCells g (0 + i * 4) (cs.drop (j * 4)) ∧ w' = W1.setCells g ((i + (n - j)) * 4) (List.replicate ((n - (i + (n - j))) * 4) (.int .i64 0)) := by
  have mixed : Try.prog.follows .mixedOrders = true := by kernel_rfl
  have t34 := Try.underlying26
  have i26 : (Try.prog.info? 45).map (fun i => (i.zero, i.size, i.bytes)) = some (some (Value.agg #[.int .i64 0, .int .i64 0, .int .i64 0, .int .i64 0]), 4, 32) := by kernel_rfl
  obtain ⟨i0, hi0, hz0, hz1, hz2⟩ := info_parts i26
  obtain ⟨news, hnews⟩ : ∃ news, news = cs.drop (j * 4) := ⟨_, rfl⟩
  have hlen : news.length = (n - j) * 4 := by rw [hnews, List.length_drop, hcs, Nat.sub_mul]
  have hget : ∀ t, t < (n - j) * 4 → news[t]? = some (cs.getD (j * 4 + t) default) := by
    intro t ht
    have : j * 4 + t < cs.length := by omega
    rw [hnews, List.getElem?_drop, List.getD_eq_getElem?_getD, List.getElem?_eq_getElem this]
    rfl
  obtain ⟨A, hA, hsrc⟩ : ∃ A : Addr, (if cap = j then some (⟨g, 0, none⟩ : Addr) else some ⟨g, 0 + j * 4, none⟩) = some A ∧ Hid (∀ t u, news[t]? = some u → w.drew.cell? (A.add t) = some u) := by
    by_cases h : cap = j
    · refine ⟨⟨g, 0, none⟩, by simp [h], fun t u hu => ?_⟩
      have h0 : news.length = 0 := by rw [hlen]; omega
      rw [List.length_eq_zero_iff.1 h0] at hu
      simp at hu
    · refine ⟨⟨g, 0 + j * 4, none⟩, by simp [h], fun t u hu => ?_⟩
      have ht : t < (n - j) * 4 := by
        have := (List.getElem?_eq_some_iff.1 hu).1
        rwa [hlen] at this
      rw [hget t ht] at hu
      rw [Addr.add_lit, show 0 + j * 4 + t = j * 4 + t by omega]
      exact (hcell (j * 4 + t) (by omega)).trans hu
  have s1 : Hid (news.length = (n - j) * 4) := hlen
  have s2 : Hid (∀ u ∈ news, u.oneCell' = true) := by
    intro u hu
    rw [hnews] at hu
    exact hone u (List.mem_of_mem_drop hu)
  have s3 : Hid (∀ t, t < news.length → (w.drew.cell? ⟨g, 0 + i * 4 + t, none⟩).isSome = true ∧ w.drew.frozen? ⟨g, 0 + i * 4 + t, none⟩ = false) := by
    intro t ht
    rw [hlen] at ht
    rw [show 0 + i * 4 + t = i * 4 + t by omega]
    exact ⟨by show (w.cell? _).isSome = true; rw [hcell (i * 4 + t) (by omega)]; rfl, hfr (i * 4 + t) (by omega)⟩
  obtain ⟨W1, hW1⟩ : ∃ W1, W1 = w.drew.setCells g (0 + i * 4) news := ⟨_, rfl⟩
  have hc1 : ∀ t, t < n * 4 → (W1.cell? ⟨g, t, none⟩).isSome = true := by
    intro t ht
    rw [hW1]
    refine World.isSome_setCells g news _ w.drew _ ?_
    show (w.cell? _).isSome = true
    rw [hcell t ht]; rfl
  have hf1 : ∀ t, t < n * 4 → W1.frozen? ⟨g, t, none⟩ = false := by
    intro t ht
    rw [hW1, World.frozen?_setCells]
    exact hfr t ht
  have hcl : ∀ ty c, (Builtin.clear_ #[26] ty #[.slice (some ⟨g, (i + (n - j)) * 4, none⟩) (n - (i + (n - j))) c]).run Try.prog W1 = .ok (.tuple #[]) (W1.setCells g ((i + (n - j)) * 4) (List.replicate ((n - (i + (n - j))) * 4) (.int .i64 0))) :=
    fun ty c => run_clear4 W1 ty g ((i + (n - j)) * 4) _ c (by omega) (fun t ht => hc1 _ (by omega)) (fun t ht => hf1 _ (by omega))
  have hW : Hid (W1 = w.drew.setCells g (0 + i * 4) news) := hW1
  have hic : i ≤ cap := by omega
  have hjc : j ≤ cap := by omega
  have hfin : Hid (W1 = w.drew.setCells g (0 + i * 4) (cs.drop (j * 4))) := by rw [← hnews]; exact hW1
  clear hW1 hc1 hf1 hget hnews hlen hcell hfr hone hcs
  go_enter Try.func62, Try.ntmps62
  go_wp2_with fail
  go_region_law_o (refine step_append_room rfl (.tmp 22) (.tmp 25) 26 rfl 45 i0 4 t34 hi0 hz1 g 0 i cap (by simp [Act.eval, Act.put]) A (n - j) (cap - j) news (by simpa [Act.eval, Act.put] using hA) s1.out hsrc.out s2.out (by omega) s3.out ?_; rw [← hW.out])
  go_wp2
  all_goals go_ret
  all_goals first
    | exact ⟨rfl, by rw [hfin.out, show 0 + i * 4 = i * 4 by omega]⟩
    | (refine And.intro rfl ?_; rw [hfin.out, show 0 + i * 4 = i * 4 by omega])

theorem repl_rep {K : KW} (n : Nat) : RepL K (List.replicate n (.int .i64 0)) (List.replicate n (Value.int .i64 0)) := by
  refine RepL.of (by simp) ?_
  intro i x v hx hv
  rw [List.getElem?_replicate] at hx hv
  split at hx
  case isFalse => cases hx
  rename_i h
  rw [if_pos h] at hv
  simp only [Option.some.injEq] at hx hv
  subst hx hv
  rfl
set_option maxRecDepth 20000 in
theorem natD_ok : ∀ args H r H', natD args H = some (r, H') → OpenOk Try.prog 62 args H r H' := by
  intro args H r H' h
  unfold natD at h
  split at h
  case h_2 => cases h
  rename_i b gen n i j
  simp only [Option.bind_eq_some_iff] at h
  obtain ⟨B, hB, h⟩ := h
  split at h
  case isFalse => cases h
  rename_i hBB
  obtain ⟨rfl, hmp0, hlen, hi0, hij, hjn⟩ := hBB
  simp only [Option.some.injEq, Prod.mk.injEq] at h
  obtain ⟨rfl, rfl⟩ := h
  obtain ⟨I, rfl⟩ : ∃ I : Nat, i = I := ⟨i.toNat, by omega⟩
  obtain ⟨J, rfl⟩ : ∃ J : Nat, j = J := ⟨j.toNat, by omega⟩
  simp only [Int.toNat_natCast]
  refine ⟨⟨Try.f62, rfl, by decide, rfl⟩, fun K vs hH hr => ?_⟩
  obtain ⟨v, rfl, hv⟩ : ∃ v, vs = #[v, .int .i64 I, .int .i64 J] ∧ Rep K (.msl true b B.gen 0 n 4) v := by
    obtain ⟨v, l, e, hv, v2, l2, rfl, hv2, v3, l3, rfl, hv3, hl⟩ := hr
    refine ⟨v, ?_, hv⟩
    apply Array.ext'
    rw [e, show v2 = .int .i64 I from hv2, show v3 = .int .i64 J from hv3, show l3 = [] from hl]
  obtain ⟨_, ⟨h0, _⟩ | ⟨g, m, c, hm, rfl, hc, hcm⟩⟩ := hv
  · omega
  obtain ⟨hH1, hX1⟩ := hH.drew
  obtain ⟨l, hl, hone, hcell⟩ := (hH.row hB hm).vals
  have hll : l.length = n * 4 := by rw [← hl.length]; exact hlen
  rcases hH1.blk b B hB with ⟨_, _, hno⟩ | ⟨_, _, _, _, _, hx, _⟩ | ⟨g', cur, _, hm', hh, _, _, hlc, hrc, h1c⟩
  · have : K.drew.μ b B.gen = some (g, m) := hm
    rw [this] at hno; cases hno
  · rw [hmp0] at hx; cases hx
  have hm1 : K.drew.μ b B.gen = some (g, m) := hm
  rw [hm1] at hm'
  obtain ⟨rfl, rfl⟩ : g = g' ∧ m = cur.size := by simpa using hm'
  have hfr : ∀ t, t < n * 4 → K.w.frozen? ⟨g, t, none⟩ = false := fun t _ => frozen_of_row K.w g _ cur B.e hh
  refine (del_walk g I J c n l K.w hll ?_ hfr hone hc (by omega) (by omega)).mono ?_
  · intro t ht
    have : t < l.length := by omega
    have h2 := hcell t l[t] (List.getElem?_eq_getElem this)
    rw [Nat.zero_add] at h2
    rw [h2, List.getD_eq_getElem?_getD, List.getElem?_eq_getElem this]
    rfl
  rintro e w' ⟨rfl, W1, rfl, rfl⟩
  have hl1 : RepL K.drew B.xs l := hl.mono K.drew_le
  obtain ⟨cur1, hh1, hs1, hsz1, hg1, hrep1⟩ := heap_setCells g B.e (l.drop (J * 4)) (0 + I * 4) K.w.drew cur hh
  obtain ⟨cur2, hh2, hs2, hsz2, hg2, hrep2⟩ := heap_setCells g B.e (List.replicate ((n - (I + (n - J))) * 4) (.int .i64 0)) ((I + (n - J)) * 4) _ cur1 hh1
  have hd : RepL K.drew (B.xs.drop (J * 4)) (l.drop (J * 4)) := hl1.drop _
  have hx1 := hrep1 K.drew B.xs (B.xs.drop (J * 4)) hrc hd (by rw [List.length_drop]; omega) hlc
  have hx2 := hrep2 K.drew _ (List.replicate ((n - (I + (n - J))) * 4) (.int .i64 0)) (by rw [length_setCells]; exact hx1) (repl_rep _) (by rw [length_setCells, List.length_replicate]; omega) (by rw [length_setCells]; omega)
  have hgg : K.drew.w.grownBy ((K.w.drew.setCells g (0 + I * 4) (l.drop (J * 4))).setCells g ((I + (n - J)) * 4) (List.replicate ((n - (I + (n - J))) * 4) (.int .i64 0))) (some g) :=
    ⟨hg2.os.trans hg1.os, hg2.tape.trans hg1.tape, hg2.output.trans hg1.output, Nat.le_trans hg1.size hg2.size, fun k hk hne => (hg2.block k (Nat.lt_of_lt_of_le hk hg1.size) hne).trans (hg1.block k hk hne)⟩
  rw [Nat.zero_add] at *
  have hle' : K.drew.Le ⟨(K.w.drew.setCells g (I * 4) (l.drop (J * 4))).setCells g ((I + (n - J)) * 4) (List.replicate ((n - (I + (n - J))) * 4) (.int .i64 0)), K.Z, K.Y, K.μ⟩ := ⟨hgg.os, hgg.tape, hgg.output, hgg.size, fun k hk => hgg.block k (hH1.lt k hk) (by
    intro e
    obtain rfl : k = g := by simpa using e
    exact hH1.notLive hk ⟨b, B, _, hB, hm⟩), fun _ h => h, fun _ h => h, fun _ _ _ h => h, MapsKeep.grown hgg (by
    intro k es c e
    obtain rfl : g = k := by simpa using e
    exact hH1.noMap hB hmp0 hm1 es c)⟩
  have hdl : (delC B.xs n I J).length = B.xs.length := by unfold delC; rw [length_setCells, length_setCells]
  have h1d : (B.xs.drop (J * 4)).all PV.one = true := by
    rw [List.all_eq_true] at h1c ⊢
    exact fun x hx => h1c x (List.mem_of_mem_drop hx)
  obtain ⟨hH', hE⟩ := hH1.put hgg (by rw [hsz2, hsz1]; rfl) hB hmp0 hm1 hh2 (by rw [hs2, hs1]) (delC B.xs n I J) (by rw [hdl]; exact hlc) (by
    have := hx2.mono hle'
    rw [length_setCells] at this
    rw [hdl]
    exact this) (by
    unfold delC
    exact all_setCells _ _ _ _ (all_setCells _ _ _ _ h1c h1d) (by simp [PV.one]))
  exact ⟨_, _, rfl, rfl, hX1.trans hE, hH', by decide, .inr ⟨g, _, c, hm, rfl, by omega, hcm⟩⟩
end Go.Proofs.Ytfocelelbcepnaa
end

section
set_option linter.unusedVariables false
set_option linter.unusedSimpArgs false
namespace Go.Proofs.Ytfocelelbcepnaa
open Go.Shelf Go.RowKit Go.Lib Go.Sort
set_option maxHeartbeats 2000000 in
set_option maxRecDepth 100000 in
theorem clone_walk_nil (c : Nat) (w : World) : Calls Try.prog 63 #[.slice none 0 c] w fun e w' => e = .returned (.slice none 0 0) ∧ w' = w := by
  have hq : ∀ w, (binOp .eql 26 (.slice none 0 c) (.slice none 0 0)).run Try.prog w = .ok (.bool true) w := by
    intro w
    have h1 : (Op.equal 26 (.slice none 0 c) (.slice none 0 0)).run Try.prog w = .ok true w := PM.run_equalIn_nil_right 9999 Try.underlying26 _ _ _ _ _ _
    simp only [binOp]
    simp
    rw [h1]
    rfl
  go_enter Try.func63, Try.ntmps63
  go_wp2
  go_ret
  exact ⟨rfl, rfl⟩
set_option maxHeartbeats 2000000 in
set_option maxRecDepth 100000 in
theorem clone_walk_some (A : Addr) (c : Nat) (w : World) : Calls Try.prog 63 #[.slice (some A) 0 c] w fun e w' => ∃ a, e = .returned (.slice a 0 0) ∧ ∃ os, w' = Go.Sort.grow w os := by
  have hq : ∀ w, (binOp .eql 26 (.slice (some A) 0 c) (.slice none 0 0)).run Try.prog w = .ok (.bool false) w := by
    intro w
    have h1 : (Op.equal 26 (.slice (some A) 0 c) (.slice none 0 0)).run Try.prog w = .ok false w := PM.run_equalIn_nil_right 9999 Try.underlying26 _ _ _ _ _ _
    simp only [binOp]
    simp
    rw [h1]
    rfl
  have t34 := Try.underlying26
  have i26 : (Try.prog.info? 45).map (fun i => (i.zero, i.size, i.bytes)) = some (some (Value.agg #[.int .i64 0, .int .i64 0, .int .i64 0, .int .i64 0]), 4, 32) := by kernel_rfl
  obtain ⟨i0, hi0, hz0, hz1, hz2⟩ := info_parts i26
  have happ : ∀ ao ty w, (Builtin.append_ #[26, 26] ty #[.slice ao 0 0, .slice (some A) 0 c]).run Try.prog w = .ok (.slice ao 0 0) w := fun ao ty w => PM.run_append_empty t34 hi0 ao _ 0 0 c (Nat.le_refl _) w
  clear hz0 hz1 hz2 hi0 i26
  go_enter Try.func63, Try.ntmps63
  go_wp2
  go_ret
  exact ⟨some ⟨w.heap.size, 0, none⟩, rfl, #[.cells #[] 45], Go.Sort.alloc_eq_grow _ _⟩
open Go.Proofs.Ytfocelelbcepnaa.PM
set_option maxRecDepth 20000 in
theorem natC_ok : ∀ args H r H', natC args H = some (r, H') → OpenOk Try.prog 63 args H r H' := by
  intro args H r H' h
  unfold natC at h
  split at h
  case h_2 => cases h
  rename_i nl
  simp only [Option.some.injEq, Prod.mk.injEq] at h
  obtain ⟨rfl, rfl⟩ := h
  refine ⟨⟨Try.f63, rfl, by decide, rfl⟩, fun K vs hH hr => ?_⟩
  obtain ⟨ao, c, rfl⟩ : ∃ ao c, vs = #[.slice ao 0 c] := by
    obtain ⟨v, l, e, hv, hl⟩ := hr
    obtain ⟨_, _, ao, n, c, rfl, hn, _⟩ := hv
    have : n = 0 := by simp at hn; omega
    subst this
    refine ⟨ao, c, ?_⟩
    apply Array.ext'
    rw [e, show l = [] from hl]
  cases ao with
  | none =>
    refine (clone_walk_nil c K.w).mono ?_
    rintro e w' ⟨rfl, rfl⟩
    exact ⟨_, K, rfl, rfl, Ext.refl _ _, hH, by decide, by simp [PV.cleanL], none, 0, 0, rfl, rfl, rfl, .inl rfl⟩
  | some A =>
    refine (clone_walk_some A c K.w).mono ?_
    rintro e w' ⟨a, rfl, os, rfl⟩
    obtain ⟨hH2, hX2⟩ := hH.grow0 (w' := Go.Sort.grow K.w os) ⟨rfl, rfl, rfl, by simp [Go.Sort.grow], fun k hk => by
      simp only [Go.Sort.grow]
      rw [Array.getElem?_append_left hk]⟩
    exact ⟨_, _, rfl, rfl, hX2, hH2, by decide, by simp [PV.cleanL], a, 0, 0, rfl, rfl, rfl, .inl rfl⟩
end Go.Proofs.Ytfocelelbcepnaa
end

section
set_option linter.unusedVariables false
set_option linter.unusedSimpArgs false
namespace Go.Proofs.Ytfocelelbcepnaa
open Go.Shelf Go.RowKit Go.Lib Go.Sort
set_option maxHeartbeats 4000000 in
set_option maxRecDepth 100000 in
theorem len64_walk (n : Nat) (hn : n ≤ 7) (w : World) : Calls Try.prog 130 #[.int .u64 n] w fun e w' => e = .returned (.int .i64 (lenB n)) ∧ w' = w := by
  have : n = 0 ∨ n = 1 ∨ n = 2 ∨ n = 3 ∨ n = 4 ∨ n = 5 ∨ n = 6 ∨ n = 7 := by omega
  rcases this with rfl | rfl | rfl | rfl | rfl | rfl | rfl | rfl
  all_goals
    go_enter Try.func130, Try.ntmps130
    go_wp2
    go_ret
    exact ⟨by kernel_rfl, rfl⟩
open Go.Proofs.Ytfocelelbcepnaa.PM
set_option maxRecDepth 20000 in
theorem natP_ok : ∀ f args r, natP f args = some r → PureOk Try.prog f args r := by
  intro f args r h
  unfold natP at h
  split at h
  case isFalse => cases h
  rename_i hf
  subst hf
  split at h
  case h_2 => cases h
  rename_i n
  split at h
  case isFalse => cases h
  rename_i hn
  simp only [Option.some.injEq] at h
  subst h
  obtain ⟨N, rfl⟩ : ∃ N : Nat, n = N := ⟨n.toNat, by omega⟩
  refine ⟨⟨Try.f130, rfl, by decide, rfl⟩, fun w Z Y vs hl hr => ?_⟩
  obtain ⟨v, l, e, hv, hl2⟩ := hr
  have : vs = #[.int .u64 N] := by
    apply Array.ext'
    rw [e, show v = .int .u64 N from hv, show l = [] from hl2]
  subst this
  refine (len64_walk N (by omega) w).mono ?_
  rintro e w' ⟨rfl, rfl⟩
  exact ⟨_, rfl, Below.refl _ _, by simp [PV.clean], rfl⟩
end Go.Proofs.Ytfocelelbcepnaa
end

section
set_option linter.unusedVariables false
set_option linter.unusedSimpArgs false
namespace Go.Proofs.Ytfocelelbcepnaa
open Go.Shelf Go.RowKit Go.Lib

/-- copy, at elements of k cells. -/
theorem run_copy_k {P : Program} (w : World) (dT sT ty elem : TypeId) (k b o dLen dCap : Nat) (a : Addr) (sLen sCap m : Nat) (cs : List Value)
    (hu : P.underlying dT = some (.slice elem)) (hs : (P.info? elem).map (·.size) = some k) (hm : Nat.min sLen dLen = m) (hn : cs.length = m * k)
    (hsrc : ∀ j v, cs[j]? = some v → w.cell? (a.add j) = some v) (hc : ∀ j, j < cs.length → (w.cell? ⟨b, o + j, none⟩).isSome = true) (hf : ∀ j, j < cs.length → w.frozen? ⟨b, o + j, none⟩ = false) (h1 : ∀ v ∈ cs, v.oneCell' = true) :
    (Builtin.copy_ #[dT, sT] ty #[.slice (some ⟨b, o, none⟩) dLen dCap, .slice (some a) sLen sCap]).run P w = .ok (goInt m) (w.setCells b o cs) := by
  have hl := run_loadCells_list (P := P) w a cs hsrc
  have hst := run_storeCells_cells (P := P) b o cs 0 w (by simpa using hc) (by simpa using hf) h1
  cases hq : P.info? elem with
  | none => simp [hq] at hs
  | some i =>
    have hi : i.size = k := by simpa [hq] using hs
    subst hm
    rw [hn] at hl
    simp [Builtin.copy_, run_underlying hu, Builtin.lenOf, Builtin.firstCells, sizeOf, typeInfo, hq, hi, hl, hst]

set_option maxHeartbeats 4000000 in
set_option maxRecDepth 1000000 in
theorem ins_shift (g n c i vb vc : Nat) (cs vs : List Value) (w : World) (hi : i < n) (hroom : n + 1 ≤ c) (hc63 : c ≤ 9223372036854775807) (hvb : vb ≠ g) (hcl : cs.length = n * 4) (hvl : vs.length = 4)
    (hcs : ∀ j v, cs[j]? = some v → w.cell? ⟨g, j, none⟩ = some v) (hsp : ∀ j, j < (n + 1) * 4 → (w.cell? ⟨g, j, none⟩).isSome = true) (hfz : ∀ j, w.frozen? ⟨g, j, none⟩ = false)
    (hvs : ∀ j v, vs[j]? = some v → w.cell? ⟨vb, j, none⟩ = some v) (h1c : ∀ v ∈ cs, v.oneCell' = true) (h1v : ∀ v ∈ vs, v.oneCell' = true)
    (tA tB : TypeId) (kA kB : Nat) (hsa : w.shape? vb = some (tA, kA)) (hsb : w.shape? g = some (tB, kB)) (hkB : kB ≠ 0) (hfa : ∀ j, w.frozen? ⟨vb, j, none⟩ = false) :
    Calls Try.prog 67 #[.slice (some ⟨g, 0, none⟩) n c, .int .i64 i, .slice (some ⟨vb, 0, none⟩) 1 vc] w fun e w' =>
      e = .returned (.slice (some ⟨g, 0, none⟩) (n + 1) c) ∧ w' = (w.drew.setCells g ((i + 1) * 4) (cs.drop (i * 4))).setCells g (i * 4) vs := by
  have mixed : Try.prog.follows .mixedOrders = true := by kernel_rfl
  have t30 := Try.underlying26
  have i36 : (Try.prog.info? 45).map (fun i => (i.zero, i.size, i.bytes)) = some (some (Value.agg #[.int .i64 0, .int .i64 0, .int .i64 0, .int .i64 0]), 4, 32) := by kernel_rfl
  obtain ⟨i0, hi0, hz0, hz1, hz2⟩ := info_parts i36
  have hsz : (Try.prog.info? 45).map (·.size) = some 4 := by rw [hi0]; simp [hz1]
  have hov : ∀ o lb cb, (callFunc 97 #[.slice (some ⟨vb, 0, none⟩) 1 vc, .slice (some ⟨g, o, none⟩) lb cb]).run Try.prog w = .ok (.value (.bool false)) w := fun o lb cb => by
    rw [run_callFunc_extern Try.func97 (by kernel_rfl) (by kernel_rfl) (by kernel_rfl) (e := Extern.SlicesOverlaps.overlaps #[26, 26] #[4]) (by kernel_rfl),
      Lib.run_overlaps_apart w 26 4 45 t30 4 Try.sizeOf45 ⟨vb, 0, none⟩ ⟨g, o, none⟩ 1 vc lb cb hvb tA tB kA kB hsa hsb hkB (hfa _) (hfa _)]
    rfl
  have hdl : (cs.drop (i * 4)).length = (n - i) * 4 := by rw [List.length_drop, hcl]; omega
  have hcp1 : ∀ ty dc sc, (Builtin.copy_ #[26, 26] ty #[.slice (some ⟨g, (i + 1) * 4, none⟩) (n - i) dc, .slice (some ⟨g, i * 4, none⟩) (n + 1 - i) sc]).run Try.prog w.drew = .ok (goInt ((n - i : Nat) : Int)) (w.drew.setCells g ((i + 1) * 4) (cs.drop (i * 4))) := fun ty dc sc =>
    run_copy_k w.drew _ _ ty 45 4 g ((i + 1) * 4) (n - i) dc ⟨g, i * 4, none⟩ (n + 1 - i) sc (n - i) (cs.drop (i * 4)) t30 hsz (by simp only [Nat.min_def]; split <;> omega) hdl
      (fun j v hj => by rw [Addr.add_lit]; exact hcs (i * 4 + j) v (by rwa [List.getElem?_drop] at hj))
      (fun j hj => hsp _ (by omega)) (fun j hj => hfz _) (fun v hv => h1c v (List.mem_of_mem_drop hv))
  obtain ⟨W1, hW1⟩ : ∃ W1, W1 = w.drew.setCells g ((i + 1) * 4) (cs.drop (i * 4)) := ⟨_, rfl⟩
  have hcp2 : ∀ ty dc, (Builtin.copy_ #[26, 26] ty #[.slice (some ⟨g, i * 4, none⟩) (n + 1 - i) dc, .slice (some ⟨vb, 0, none⟩) 1 vc]).run Try.prog W1 = .ok (goInt 1) (W1.setCells g (i * 4) vs) := fun ty dc =>
    run_copy_k W1 _ _ ty 45 4 g (i * 4) (n + 1 - i) dc ⟨vb, 0, none⟩ 1 vc 1 vs t30 hsz (by simp only [Nat.min_def]; split <;> omega) (by omega)
      (fun j v hj => by
        rw [Addr.add_lit, hW1, World.cell?_setCells_out g _ _ _ _ (fun h _ => absurd h hvb), Nat.zero_add]
        exact hvs j v hj)
      (fun j hj => by rw [hW1]; exact World.isSome_setCells g _ _ w.drew _ (hsp _ (by omega))) (fun j hj => by rw [hW1, World.frozen?_setCells]; exact hfz _) h1v
  rw [← hW1] at hcp1
  have hw1 : IntKind.i64.wrap ((i : Int) + 1) = (i : Int) + 1 := by rw [IntKind.wrap_i64]; omega
  have hz2 : ¬ ((i : Int) = (n : Int)) := by omega
  have hb1 : (0 : Int) ≤ (i : Int) + 1 := by omega
  have hin : i ≤ n := by omega
  have hb2 : ¬ (c = i + 1) := by omega
  have hb4 : ¬ (c = i) := by omega
  have hb3 : (i : Int) ≤ (n : Int) + 1 := by omega
  have hb5 : (i : Int) + 1 ≤ (n : Int) + 1 := by omega
  have htn : ((i : Int) + 1).toNat = i + 1 := by omega
  have hfin : Hid (W1 = w.drew.setCells g ((i + 1) * 4) (cs.drop (i * 4))) := hW1
  clear hW1 hcs hsp hfz hvs h1c h1v hsa hsb hfa hcl hdl i36
  go_enter Try.func67, Try.ntmps67
  go_wp2_with (simp only [hov])
  go_region_law_o (refine step_copy_runI rfl _ _ 26 26 rfl _ _ (by simp [Act.eval, Act.put]) (by simp [Act.eval, Act.put]) (hcp1 _ _ _) ?_)
  go_wp2_with (at_builtin; refine wpList_copy_runI _ rfl _ _ 26 26 rfl _ _ rfl rfl (hcp2 _ _) ?_)
  go_ret
  exact ⟨rfl, by rw [hfin.out]⟩

set_option maxHeartbeats 4000000 in
set_option maxRecDepth 1000000 in
theorem ins_grow (g n c i vb vc : Nat) (cs vs : List Value) (w : World) (hi : i < n) (hnc : n ≤ c) (hroom : c < n + 1) (hbig : (n + 1) * 32 ≤ 140737488355328) (hcl : cs.length = n * 4) (hvl : vs.length = 4)
    (hcs : ∀ j v, cs[j]? = some v → w.cell? ⟨g, j, none⟩ = some v) (hvs : ∀ j v, vs[j]? = some v → w.cell? ⟨vb, j, none⟩ = some v) (h1c : ∀ v ∈ cs, v.oneCell' = true) (h1v : ∀ v ∈ vs, v.oneCell' = true) (hgw : g < w.heap.size) (hvw : vb < w.heap.size) :
    ∃ (ROW : Array Value) (G : Nat), ROW.size = G * 4 ∧ n + 1 ≤ G ∧ G ≤ maxLen ∧ (∀ (j : Nat) (v : Value), (cs.take (i * 4))[j]? = some v → ROW[j]? = some v) ∧
    Calls Try.prog 67 #[.slice (some ⟨g, 0, none⟩) n c, .int .i64 i, .slice (some ⟨vb, 0, none⟩) 1 vc] w fun e w' =>
      e = .returned (.slice (some ⟨w.heap.size, 0, none⟩) (n + 1) G) ∧ w' = (((w.alloc (.cells ROW 45)).drew.setCells w.heap.size (i * 4) vs).drew).setCells w.heap.size ((i + 1) * 4) (cs.drop (i * 4)) := by
  have mixed : Try.prog.follows .mixedOrders = true := by kernel_rfl
  have t30 := Try.underlying26
  have t3 := Try.underlying3
  have i36 : (Try.prog.info? 45).map (fun i => (i.zero, i.size, i.bytes)) = some (some (Value.agg #[.int .i64 0, .int .i64 0, .int .i64 0, .int .i64 0]), 4, 32) := by kernel_rfl
  obtain ⟨i0, hi0, hz0, hz1, hz2⟩ := info_parts i36
  have hsz : (Try.prog.info? 45).map (·.size) = some 4 := by rw [hi0]; simp [hz1]
  have hold : (Builtin.firstCells i0.size i (.slice (some ⟨g, 0, none⟩) i c)).run Try.prog w.drew = .ok (cs.take (i * 4)).toArray w.drew := by
    rw [hz1]
    exact run_firstCells_some w.drew 4 i ⟨g, 0, none⟩ i c (cs.take (i * 4)) (by rw [List.length_take]; omega) (fun j v hj => by
      rw [Addr.add_lit, Nat.zero_add]
      rw [List.getElem?_take] at hj
      split at hj
      · exact hcs j v hj
      · cases hj)
  obtain ⟨G, hG⟩ : ∃ G, G = grownCap w (n + 1) c 45 := ⟨_, rfl⟩
  have hGn : n + 1 ≤ G := by rw [hG]; exact grownCap_ge w _ _ _
  have hG63 : G ≤ maxLen := by
    have := grownCap_le_maxLen w (n + 1) c 45 (by unfold maxLen; omega)
    rwa [← hG] at this
  obtain ⟨ROW, hROW⟩ : ∃ ROW : Array Value, ROW = (cs.take (i * 4)).toArray ++ Builtin.zeroCells (Value.agg #[.int .i64 0, .int .i64 0, .int .i64 0, .int .i64 0]).cells (n + 1 - i) ++ Builtin.zeroCells (Value.agg #[.int .i64 0, .int .i64 0, .int .i64 0, .int .i64 0]).cells (G - (n + 1)) := ⟨_, rfl⟩
  have hik : i + (n + 1 - i) = n + 1 := by omega
  have hkk : (n : Int) + 1 - (i : Int) = ((n + 1 - i : Nat) : Int) := by omega
  have hrz : ∀ ty, (Builtin.append_ #[26, 3] ty #[.slice (some ⟨g, 0, none⟩) i c, .int .i64 ((n : Int) + 1 - (i : Int))]).run Try.prog w = .ok (.slice (some ⟨w.heap.size, 0, none⟩) (n + 1) G) (w.drew.alloc (.cells ROW 45)) := fun ty => by
    have h := Lib.run_append_grow_zeros w 26 3 ty 45 i0 _ .i64 .i64 t30 t3 hi0 hz0 (some ⟨g, 0, none⟩) i c (cs.take (i * 4)) hold (n + 1 - i) (by omega) (by omega) (by omega) (by omega) (by rw [hz2]; omega) (by rw [hz2, hik]; exact growslice_fits hroom hbig)
    rw [hik, ← hG, ← hROW] at h
    rw [hkk]
    exact h
  have hRs : ROW.size = G * 4 := by
    rw [hROW]
    simp [Builtin.zeroCells, Value.cells]
    omega
  refine ⟨ROW, G, hRs, hGn, hG63, fun j v hj => ?_, ?_⟩
  · have hjl := (List.getElem?_eq_some_iff.1 hj).1
    rw [hROW, Array.getElem?_append_left (by simp [Builtin.zeroCells] at hjl ⊢; omega), Array.getElem?_append_left (by simpa using hjl)]
    simpa using hj
  obtain ⟨W1, hW1⟩ : ∃ W1, W1 = w.drew.alloc (.cells ROW 45) := ⟨_, rfl⟩
  rw [← hW1] at hrz
  have hN : ∀ j, j < (n + 1) * 4 → (W1.cell? ⟨w.heap.size, j, none⟩).isSome = true := fun j hj => by
    rw [hW1, World.cell?_alloc_at (w := w.drew) ROW _ w.heap.size j rfl, Array.getElem?_eq_getElem (by omega)]; rfl
  have hNf : ∀ j, W1.frozen? ⟨w.heap.size, j, none⟩ = false := fun j => by rw [hW1]; exact World.frozen?_alloc_at (w := w.drew) ROW _ w.heap.size j rfl
  have hOb : ∀ j v, w.cell? ⟨g, j, none⟩ = some v → W1.cell? ⟨g, j, none⟩ = some v := fun j v h => by rw [hW1, World.cell?_alloc_past (w := w.drew) _ g j hgw]; exact h
  have hOv : ∀ j v, w.cell? ⟨vb, j, none⟩ = some v → W1.cell? ⟨vb, j, none⟩ = some v := fun j v h => by rw [hW1, World.cell?_alloc_past (w := w.drew) _ vb j hvw]; exact h
  have hdl : (cs.drop (i * 4)).length = (n - i) * 4 := by rw [List.length_drop, hcl]; omega
  have hbN : g ≠ w.heap.size := by omega
  have hcpA : ∀ (W : World), (∀ x, W.cell? x = W1.cell? x) → (∀ x, W.frozen? x = W1.frozen? x) → ∀ ty dc, (Builtin.copy_ #[26, 26] ty #[.slice (some ⟨w.heap.size, i * 4, none⟩) (n + 1 - i) dc, .slice (some ⟨vb, 0, none⟩) 1 vc]).run Try.prog W = .ok (goInt 1) (W.setCells w.heap.size (i * 4) vs) := fun W hWc hWf ty dc =>
    run_copy_k W _ _ ty 45 4 w.heap.size (i * 4) (n + 1 - i) dc ⟨vb, 0, none⟩ 1 vc 1 vs t30 hsz (by simp only [Nat.min_def]; split <;> omega) (by omega)
      (fun j v hj => by rw [Addr.add_lit, hWc, Nat.zero_add]; exact hOv _ v (hvs j v hj))
      (fun j hj => by rw [hWc]; exact hN _ (by omega)) (fun j hj => by rw [hWf]; exact hNf _) h1v
  have hcpB : ∀ (W : World), (∀ x, W.cell? x = (W1.setCells w.heap.size (i * 4) vs).cell? x) → (∀ x, W.frozen? x = (W1.setCells w.heap.size (i * 4) vs).frozen? x) → ∀ ty dc sc, (Builtin.copy_ #[26, 26] ty #[.slice (some ⟨w.heap.size, (i + 1) * 4, none⟩) (n - i) dc, .slice (some ⟨g, i * 4, none⟩) (n - i) sc]).run Try.prog W = .ok (goInt ((n - i : Nat) : Int)) (W.setCells w.heap.size ((i + 1) * 4) (cs.drop (i * 4))) := fun W hWc hWf ty dc sc =>
    run_copy_k W _ _ ty 45 4 w.heap.size ((i + 1) * 4) (n - i) dc ⟨g, i * 4, none⟩ (n - i) sc (n - i) (cs.drop (i * 4)) t30 hsz (by simp only [Nat.min_def]; split <;> omega) hdl
      (fun j v hj => by
        rw [Addr.add_lit, hWc, World.cell?_setCells_out _ _ _ _ _ (fun h _ => absurd h hbN)]
        exact hOb _ v (hcs (i * 4 + j) v (by rwa [List.getElem?_drop] at hj)))
      (fun j hj => by rw [hWc]; exact World.isSome_setCells _ _ _ W1 _ (hN _ (by omega)))
      (fun j hj => by rw [hWf, World.frozen?_setCells]; exact hNf _) (fun v hv => h1c v (List.mem_of_mem_drop hv))
  subst hW1
  have hE1 : ∀ x, ((w.alloc (.cells ROW 45)).drew).cell? x = (w.drew.alloc (.cells ROW 45)).cell? x := fun x => rfl
  have hE2 : ∀ x, ((w.alloc (.cells ROW 45)).drew).frozen? x = (w.drew.alloc (.cells ROW 45)).frozen? x := fun x => rfl
  have hF1 : ∀ x, (((w.alloc (.cells ROW 45)).drew.setCells w.heap.size (i * 4) vs).drew).cell? x = ((w.drew.alloc (.cells ROW 45)).setCells w.heap.size (i * 4) vs).cell? x := fun x => rfl
  have hF2 : ∀ x, (((w.alloc (.cells ROW 45)).drew.setCells w.heap.size (i * 4) vs).drew).frozen? x = ((w.drew.alloc (.cells ROW 45)).setCells w.heap.size (i * 4) vs).frozen? x := fun x => rfl
  have hG63' : G ≤ 9223372036854775807 := hG63
  have hw1 : IntKind.i64.wrap ((i : Int) + 1) = (i : Int) + 1 := by rw [IntKind.wrap_i64]; omega
  have hz2' : ¬ ((i : Int) = (n : Int)) := by omega
  have hz3 : (c : Int) < (n : Int) + 1 := by omega
  have hb1 : (0 : Int) ≤ (i : Int) + 1 := by omega
  have hin : i ≤ n := by omega
  have htn : ((i : Int) + 1).toNat = i + 1 := by omega
  have hb3 : (i : Int) ≤ (n : Int) := by omega
  have hb5 : (i : Int) + 1 ≤ (n : Int) + 1 := by omega
  have hb6 : (i : Int) ≤ (n : Int) + 1 := by omega
  have hGi : ¬ (G = i) := by omega
  have hGim : ¬ (G = i + 1) := by omega
  have hci : ¬ (c = i) := by omega
  clear hkk hik hold hROW hG hRs hcs hvs h1c h1v hOb hOv hN hNf hcl hdl i36 hz0 hz1 hz2 hi0
  go_enter Try.func67, Try.ntmps67
  go_wp2_with (first
    | (at_builtin; refine Lib.wpList_append_run _ rfl _ _ _ _ rfl _ _ rfl rfl _ _ (hrz _) ?_)
    | (at_builtin; refine wpList_copy_runI _ rfl _ _ 26 26 rfl _ _ rfl rfl (hcpA _ hE1 hE2 _ _) ?_))
  go_region_law_o (refine step_copy_runI rfl _ _ 26 26 rfl (.slice (some ⟨w.heap.size, (i + 1) * 4, none⟩) (n - i) (G - (i + 1))) (.slice (some ⟨g, i * 4, none⟩) (n - i) (c - i)) (by simp [Act.eval, Act.put]) (by simp [Act.eval, Act.put]) (hcpB _ hF1 hF2 _ (G - (i + 1)) (c - i)) ?_)
  go_wp2
  go_ret
  exact ⟨rfl, rfl⟩
end Go.Proofs.Ytfocelelbcepnaa
end

section
set_option linter.unusedVariables false
set_option linter.unusedSimpArgs false
set_option maxHeartbeats 1000000
namespace Go.Proofs.Ytfocelelbcepnaa
open Go.Proofs.Ytfocelelbcepnaa.PM

theorem setCells_full : ∀ (xs ys r : List PV), xs.length = ys.length → setCells (xs ++ r) 0 ys = ys ++ r := by
  intro xs ys r h
  have h2 := setCells_app ([] : List PV) r ys xs 0 (by omega)
  simp only [List.nil_append, List.length_nil, Nat.zero_add] at h2
  rw [h2]
  congr 1
  clear h2
  induction ys generalizing xs with
  | nil =>
    rw [List.length_eq_zero_iff.1 h, setCells_nil]
  | cons y ys ih =>
    cases xs with
    | nil => simp at h
    | cons x xs =>
      rw [setCells_cons]
      simp only [List.set_cons_zero]
      have h3 := setCells_app [y] [] ys xs 0 (by simp at h; omega)
      simp only [List.length_singleton, Nat.add_zero, List.append_nil] at h3
      show setCells ([y] ++ xs) (0 + 1) ys = _
      rw [Nat.zero_add, h3, ih xs (by simpa using h)]
      rfl
theorem setCells_mid (p q s ys : List PV) (o : Nat) (ho : o = p.length) (h : q.length = ys.length) : setCells (p ++ (q ++ s)) o ys = p ++ (ys ++ s) := by
  subst ho
  have := setCells_app p s ys q 0 (by omega)
  rw [Nat.add_zero] at this
  rw [this]
  have h2 := setCells_full q ys [] h
  rw [List.append_nil, List.append_nil] at h2
  rw [h2]
theorem ins_p1 {X U V : List PV} {n i : Nat} (hX : X.length = n * 4) (hU : U.length = 4) (hV : V.length = 4) (hi : i < n) :
    setCells (setCells (X ++ U) ((i + 1) * 4) (X.drop (i * 4))) (i * 4) V = X.take (i * 4) ++ (V ++ X.drop (i * 4)) := by
  have e1 : X ++ U = (X ++ U).take ((i + 1) * 4) ++ ((X ++ U).drop ((i + 1) * 4) ++ []) := by rw [List.append_nil, List.take_append_drop]
  have h1 : setCells (X ++ U) ((i + 1) * 4) (X.drop (i * 4)) = (X ++ U).take ((i + 1) * 4) ++ (X.drop (i * 4) ++ []) := by
    conv => lhs; rw [e1]
    exact setCells_mid _ _ _ _ _ (by rw [List.length_take, List.length_append]; omega) (by rw [List.length_drop, List.length_drop, List.length_append]; omega)
  rw [h1, List.append_nil]
  have e2 : (X ++ U).take ((i + 1) * 4) = X.take (i * 4) ++ ((X ++ U).take ((i + 1) * 4)).drop (i * 4) := by
    conv => lhs; rw [← List.take_append_drop (i * 4) ((X ++ U).take ((i + 1) * 4))]
    rw [List.take_take, Nat.min_eq_left (by omega), List.take_append_of_le_length (by omega)]
  rw [e2, List.append_assoc]
  exact setCells_mid _ _ _ _ _ (by rw [List.length_take]; omega) (by rw [List.length_drop, List.length_take, List.length_append]; omega)
theorem ins_p2 {T U V D : List PV} {n i : Nat} (hT : T.length = i * 4) (hU : U.length = 4 + D.length) (hV : V.length = 4) :
    setCells (setCells (T ++ U) (i * 4) V) ((i + 1) * 4) D = T ++ (V ++ D) := by
  have e1 : U = U.take 4 ++ U.drop 4 := (List.take_append_drop 4 U).symm
  have h1 : setCells (T ++ U) (i * 4) V = T ++ (V ++ U.drop 4) := by
    conv => lhs; rw [e1]
    exact setCells_mid _ _ _ _ _ hT.symm (by rw [List.length_take]; omega)
  rw [h1]
  have h2 := setCells_mid (T ++ V) (U.drop 4) [] D ((i + 1) * 4) (by rw [List.length_append]; omega) (by rw [List.length_drop]; omega)
  rw [List.append_nil, List.append_nil, List.append_assoc, List.append_assoc] at h2
  exact h2
theorem rep_undef {K : KW} {n : Nat} : ∀ (l : List Value), l.length = n → RepL K (List.replicate n .undef) l := by
  intro l hl
  refine RepL.of (by simp [hl]) ?_
  intro i x v hx hv
  rw [List.getElem?_replicate] at hx
  split at hx
  · simp only [Option.some.injEq] at hx
    subst hx
    trivial
  · cases hx

theorem le_mu {K : KW} {H : Hp} (hH : HRel K H) {w' : World} {b g n : Nat} {B : Blk} (hb : H[b]? = some B) (hmp : B.mp = none) (hm : K.μ b B.gen = some (g, n)) (hg : K.w.grownBy w' (some g)) (p : Nat × Nat) : K.Le ⟨w', K.Z, K.Y, muSet K.μ b (B.gen + 1) p⟩ := by
  have hfr : K.μ b (B.gen + 1) = none := hH.fresh b _ (fun B' hB' => by
    rw [hb] at hB'
    obtain rfl : B = B' := by simpa using hB'
    omega)
  exact ⟨hg.os, hg.tape, hg.output, hg.size, fun k hk => hg.block k (hH.lt k hk) (by
    intro e
    obtain rfl : k = g := by simpa using e
    exact hH.notLive hk ⟨b, B, n, hb, hm⟩), fun _ h => h, fun _ h => h, fun b' n' q hp => (muSet_other _ _ _ _ _ _ (by
    rintro ⟨rfl, rfl⟩
    rw [hfr] at hp; cases hp)).trans hp, MapsKeep.grown hg (by
    intro k es c e
    obtain rfl : g = k := by simpa using e
    exact hH.noMap hb hmp hm es c)⟩
set_option maxRecDepth 20000 in
theorem natI_ok : ∀ args H r H', natI args H = some (r, H') → OpenOk Try.prog 67 args H r H' := by
  intro args H r H' h
  unfold natI at h
  split at h
  case h_2 => cases h
  rename_i b gen n i vb vgen
  simp only [Option.bind_eq_some_iff] at h
  obtain ⟨B, hB, V, hV, h⟩ := h
  split at h
  case isFalse => cases h
  rename_i hc
  obtain ⟨rfl, hmpB, hBe, rfl, hmpV, hBl, hVl, hi0, hin, hbv, hbig⟩ := hc
  simp only [Option.some.injEq, Prod.mk.injEq] at h
  obtain ⟨rfl, rfl⟩ := h
  obtain ⟨I, rfl⟩ : ∃ I : Nat, i = I := ⟨i.toNat, by omega⟩
  simp only [Int.toNat_natCast]
  refine ⟨⟨Try.f67, rfl, by decide, rfl⟩, fun K vs hH hr => ?_⟩
  obtain ⟨v1, v3, rfl, hv1, hv3⟩ : ∃ v1 v3, vs = #[v1, .int .i64 I, v3] ∧ Rep K (.msl true b B.gen 0 n 4) v1 ∧ Rep K (.msl true vb V.gen 0 1 4) v3 := by
    obtain ⟨v, l, e, hv, v2, l2, rfl, hv2, v3, l3, rfl, hv3, hl⟩ := hr
    refine ⟨v, v3, ?_, hv, hv3⟩
    apply Array.ext'
    rw [e, show v2 = .int .i64 I from hv2, show l3 = [] from hl]
  obtain ⟨_, ⟨h0, _⟩ | ⟨g, m, c, hm, rfl, hc, hcm⟩⟩ := hv1
  · omega
  obtain ⟨_, ⟨h0, _⟩ | ⟨gv, mv, vc, hmv, rfl, hvc, _⟩⟩ := hv3
  · omega
  obtain ⟨hmc, hcM⟩ := hcm rfl rfl
  have hinI : I < n := by omega
  obtain ⟨hH1, hX1⟩ := hH.drew
  obtain ⟨l, hl, hone, hcell⟩ := (hH.row hB hm).vals
  obtain ⟨lv, hlv, honev, hcellv⟩ := (hH.row hV hmv).vals
  have hll : l.length = n * 4 := by rw [← hl.length]; exact hBl
  have hlvl : lv.length = 4 := by rw [← hlv.length]; exact hVl
  have hgv : gv ≠ g := fun e => hbv (hH.inj b vb B V g m mv hB hV hm (by rw [← e]; exact hmv))
  rcases hH1.blk b B hB with ⟨_, _, hno⟩ | ⟨_, _, _, _, _, hx, _⟩ | ⟨g', cur, _, hm', hh, _, _, hlc, hrc, h1c⟩
  · have : K.drew.μ b B.gen = some (g, m) := hm
    rw [this] at hno; cases hno
  · rw [hmpB] at hx; cases hx
  have hm1 : K.drew.μ b B.gen = some (g, m) := hm
  rw [hm1] at hm'
  obtain ⟨rfl, rfl⟩ : g = g' ∧ m = cur.size := by simpa using hm'
  rcases hH1.blk vb V hV with ⟨_, _, hno⟩ | ⟨_, _, _, _, _, hx, _⟩ | ⟨gv', curv, _, hmv', hhv, _, _, hlcv, hrcv, h1cv⟩
  · have : K.drew.μ vb V.gen = some (gv, mv) := hmv
    rw [this] at hno; cases hno
  · rw [hmpV] at hx; cases hx
  have hmv1 : K.drew.μ vb V.gen = some (gv, mv) := hmv
  rw [hmv1] at hmv'
  obtain ⟨rfl, rfl⟩ : gv = gv' ∧ mv = curv.size := by simpa using hmv'
  have hhw : K.w.heap[g]? = some (.cells cur B.e (0, 0)) := hh
  have hhvw : K.w.heap[gv]? = some (.cells curv V.e (0, 0)) := hhv
  have hcs : ∀ j v, l[j]? = some v → K.w.cell? ⟨g, j, none⟩ = some v := fun j v h => by have := hcell j v h; rwa [Nat.zero_add] at this
  have hvs : ∀ j v, lv[j]? = some v → K.w.cell? ⟨gv, j, none⟩ = some v := fun j v h => by have := hcellv j v h; rwa [Nat.zero_add] at this
  have hl1 : RepL K.drew B.xs l := hl.mono K.drew_le
  have hlv1 : RepL K.drew V.xs lv := hlv.mono K.drew_le
  have hdl : RepL K.drew (B.xs.drop (I * 4)) (l.drop (I * 4)) := hl1.drop _
  have hone' : (B.xs.take (I * 4) ++ (V.xs ++ B.xs.drop (I * 4))).all PV.one = true := by
    rw [List.all_append, List.all_append, h1cv, Bool.true_and, ← List.all_append, List.take_append_drop]
    exact h1c
  have hZl : (B.xs.take (I * 4) ++ (V.xs ++ B.xs.drop (I * 4))).length = (n + 1) * 4 := by
    rw [List.length_append, List.length_append, List.length_take, List.length_drop]; omega
  by_cases hroom : n + 1 ≤ c
  · have hsp : ∀ j, j < (n + 1) * 4 → (K.w.cell? ⟨g, j, none⟩).isSome = true := fun j hj => by
      rw [cell_of_row K.w g j cur B.e (0, 0) hhw, Array.getElem?_eq_getElem (by omega)]
      rfl
    refine (ins_shift g n c I gv vc l lv K.w hinI hroom hcM hgv hll hlvl hcs hsp (fun j => frozen_of_row K.w g j cur B.e hhw) hvs hone honev V.e B.e curv.size cur.size (by simp [World.shape?, hhvw]) (by simp [World.shape?, hhw]) (by omega) (fun j => frozen_of_row K.w gv j curv V.e hhvw)).mono ?_
    rintro e w' ⟨rfl, rfl⟩
    obtain ⟨cur1, hh1, hs1, hsz1, hg1, hrep1⟩ := heap_setCells g B.e (l.drop (I * 4)) ((I + 1) * 4) K.w.drew cur hh
    obtain ⟨cur2, hh2, hs2, hsz2, hg2, hrep2⟩ := heap_setCells g B.e lv (I * 4) _ cur1 hh1
    have hxl : (B.xs ++ List.replicate 4 PV.undef).length = (n + 1) * 4 := by rw [List.length_append, List.length_replicate]; omega
    have hx0 : RepL K.drew (B.xs ++ List.replicate 4 PV.undef) (cur.toList.take (B.xs ++ List.replicate 4 PV.undef).length) := by
      rw [hxl, show (n + 1) * 4 = n * 4 + 4 by omega, List.take_add]
      rw [hBl] at hrc
      refine hrc.append (rep_undef _ ?_)
      rw [List.length_take, List.length_drop, Array.length_toList]
      omega
    have hx1 := hrep1 K.drew _ (B.xs.drop (I * 4)) hx0 hdl (by rw [hxl, List.length_drop]; omega) (by rw [hxl]; omega)
    have hx2 := hrep2 K.drew _ V.xs (by rw [length_setCells]; exact hx1) hlv1 (by rw [length_setCells, hxl]; omega) (by rw [length_setCells, hxl]; omega)
    rw [ins_p1 hBl (by simp) hVl hinI, length_setCells, hxl] at hx2
    have hgg : K.drew.w.grownBy ((K.w.drew.setCells g ((I + 1) * 4) (l.drop (I * 4))).setCells g (I * 4) lv) (some g) :=
      ⟨hg2.os.trans hg1.os, hg2.tape.trans hg1.tape, hg2.output.trans hg1.output, Nat.le_trans hg1.size hg2.size, fun k hk hne => (hg2.block k (Nat.lt_of_lt_of_le hk hg1.size) hne).trans (hg1.block k hk hne)⟩
    have hle := le_mu hH1 hB hmpB hm1 hgg (g, cur2.size)
    obtain ⟨hH', hE⟩ := hH1.grow (g' := g) hB hmpB (by rw [hm1]; exact hgg) (.inl ⟨_, hm1⟩) hh2 (B.xs.take (I * 4) ++ (V.xs ++ B.xs.drop (I * 4))) rfl (by rw [hZl, hs2, hs1]; omega) (by rw [hZl]; exact hx2.mono hle) hone'
    rw [hBe] at hH' hE
    exact ⟨_, _, rfl, rfl, hX1.trans hE, hH', by decide, .inr ⟨g, cur2.size, c, muSet_same _ _ _ _, rfl, hroom, fun _ _ => ⟨by rw [hs2, hs1]; exact hmc, hcM⟩⟩⟩
  · have hgs : g < K.w.heap.size := hH.live_lt ⟨b, B, _, hB, hm⟩
    have hvw : gv < K.w.heap.size := hH.live_lt ⟨vb, V, _, hV, hmv⟩
    have hnc : n ≤ c := by omega
    obtain ⟨ROW, G, hRs, hGn, hGm, hRt, hcall⟩ := ins_grow g n c I gv vc l lv K.w hinI hnc (by omega) hbig hll hlvl hcs hvs hone honev hgs hvw
    refine hcall.mono ?_
    rintro e w' ⟨rfl, rfl⟩
    have hh0 : ((K.w.alloc (.cells ROW 45)).drew).heap[K.w.heap.size]? = some (.cells ROW 45 (0, 0)) := by
      show (K.w.heap.push (.cells ROW 45))[K.w.heap.size]? = _
      rw [Array.getElem?_push_size]
    obtain ⟨cur1, hh1, hs1, hsz1, hg1, hrep1⟩ := heap_setCells K.w.heap.size 45 lv (I * 4) _ ROW hh0
    obtain ⟨cur2, hh2, hs2, hsz2, hg2, hrep2⟩ := heap_setCells K.w.heap.size 45 (l.drop (I * 4)) ((I + 1) * 4) (((K.w.alloc (.cells ROW 45)).drew.setCells K.w.heap.size (I * 4) lv).drew) cur1 hh1
    have hDl : (B.xs.drop (I * 4)).length = (n - I) * 4 := by rw [List.length_drop]; omega
    have hTl : (B.xs.take (I * 4)).length = I * 4 := by rw [List.length_take]; omega
    have hxl : (B.xs.take (I * 4) ++ List.replicate (4 + (n - I) * 4) PV.undef).length = (n + 1) * 4 := by rw [List.length_append, List.length_replicate, hTl]; omega
    have hRs2 : (n + 1) * 4 ≤ ROW.size := by omega
    have hRtk : ROW.toList.take (I * 4) = l.take (I * 4) := by
      apply List.ext_getElem?
      intro j
      rw [List.getElem?_take]
      split
      · rename_i hj
        have hj2 : j < (l.take (I * 4)).length := by rw [List.length_take]; omega
        have := hRt j _ (List.getElem?_eq_getElem hj2)
        rw [List.getElem?_eq_getElem hj2, ← this]
        simp
      · rw [List.getElem?_eq_none (by rw [List.length_take]; omega)]
    have hx0 : RepL K.drew (B.xs.take (I * 4) ++ List.replicate (4 + (n - I) * 4) PV.undef) (ROW.toList.take (B.xs.take (I * 4) ++ List.replicate (4 + (n - I) * 4) PV.undef).length) := by
      rw [hxl, show (n + 1) * 4 = I * 4 + (4 + (n - I) * 4) by omega, List.take_add, hRtk]
      refine (hl1.take _).append (rep_undef _ ?_)
      rw [List.length_take, List.length_drop, Array.length_toList]
      omega
    have hx1 := hrep1 K.drew _ V.xs hx0 hlv1 (by rw [hxl]; omega) (by rw [hxl]; omega)
    have hx2 := hrep2 K.drew _ (B.xs.drop (I * 4)) (by rw [length_setCells]; exact hx1) hdl (by rw [length_setCells, hxl]; omega) (by rw [length_setCells, hxl]; omega)
    rw [ins_p2 (n := n) hTl (by rw [List.length_replicate, hDl]) hVl, length_setCells, hxl] at hx2
    have hal : K.drew.w.grownBy (K.w.alloc (.cells ROW 45)).drew (some g) :=
      ⟨rfl, rfl, rfl, by
        show K.w.heap.size ≤ (K.w.heap.push (.cells ROW 45)).size
        rw [Array.size_push]; omega, fun k hk _ => by
        have hk' : k < K.w.heap.size := hk
        show (K.w.heap.push (.cells ROW 45))[k]? = K.w.heap[k]?
        rw [Array.getElem?_push_lt hk', Array.getElem?_eq_getElem hk']⟩
    have hgg : K.drew.w.grownBy ((((K.w.alloc (.cells ROW 45)).drew.setCells K.w.heap.size (I * 4) lv).drew).setCells K.w.heap.size ((I + 1) * 4) (l.drop (I * 4))) (some g) := by
      have hne : ∀ k, k < K.w.heap.size → some k ≠ some K.w.heap.size := fun k hk e => by simp at e; omega
      refine ⟨hg2.os.trans (hg1.os.trans hal.os), hg2.tape.trans (hg1.tape.trans hal.tape), hg2.output.trans (hg1.output.trans hal.output), Nat.le_trans hal.size (Nat.le_trans hg1.size hg2.size), fun k hk hk2 => ?_⟩
      have hk' : k < K.w.heap.size := hk
      exact (hg2.block k (Nat.lt_of_lt_of_le (Nat.lt_of_lt_of_le hk hal.size) hg1.size) (fun e => hne k hk' e)).trans ((hg1.block k (Nat.lt_of_lt_of_le hk hal.size) (fun e => hne k hk' e)).trans (hal.block k hk hk2))
    have hle := le_mu hH1 hB hmpB hm1 hgg (K.w.heap.size, cur2.size)
    obtain ⟨hH', hE⟩ := hH1.grow (g' := K.w.heap.size) hB hmpB (by rw [hm1]; exact hgg) (.inr (Nat.le_refl _)) hh2 (B.xs.take (I * 4) ++ (V.xs ++ B.xs.drop (I * 4))) hBe.symm (by rw [hZl, hs2, hs1]; omega) (by rw [hZl]; exact hx2.mono hle) hone'
    rw [hBe] at hH' hE
    exact ⟨_, _, rfl, rfl, hX1.trans hE, hH', by decide, .inr ⟨K.w.heap.size, cur2.size, G, muSet_same _ _ _ _, rfl, hGn, fun _ _ => ⟨by rw [hs2, hs1]; exact hRs, hGm⟩⟩⟩
end Go.Proofs.Ytfocelelbcepnaa
end
