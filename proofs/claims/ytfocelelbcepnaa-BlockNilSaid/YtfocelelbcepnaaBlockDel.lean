/- Blocks: the library's deletion out of a slice of signals. -/
import Derived.Test.YtfocelelbcepnaaBlockTab
import Derived.Test.YtfocelelbcepnaaPmNineteen
import Derived.Shelf.RegionOpenPlain
import Derived.WalkKit
import Derived.Deep.LoopGhost
import Derived.Deep.RegionLaw
import Derived.Deep.MidRow
import Derived.Lib.Walk
import Derived.Sort.WalkB12
import Derived.Lib.SliceRun
set_option linter.unusedVariables false
set_option linter.unusedSimpArgs false
namespace Go.Proofs.Ytfocelelbcepnaa
open Go.Shelf Go.RowKit Go.Lib Go.Sort Go.Proofs.Ytfocelelbcepnaa.PM

theorem zeroCells4 (n : Nat) : (Builtin.zeroCells #[Value.int .i64 0, .int .i64 0, .int .i64 0, .int .i64 0] n).toList = List.replicate (n * 4) (.int .i64 0) := by
  apply List.ext_getElem
  · simp [Builtin.zeroCells]
  · intro i h1 h2
    simp [Builtin.zeroCells]
    have : i % 4 = 0 ∨ i % 4 = 1 ∨ i % 4 = 2 ∨ i % 4 = 3 := by omega
    rcases this with h | h | h | h <;> simp [h]
theorem run_clear4 (w : World) (ty : TypeId) (b o n c : Nat) (hn : 0 < n) (hc : ∀ j, j < n * 4 → (w.cell? ⟨b, o + j, none⟩).isSome = true) (hf : ∀ j, j < n * 4 → w.frozen? ⟨b, o + j, none⟩ = false) :
    (Builtin.clear_ #[26] ty #[.slice (some ⟨b, o, none⟩) n c]).run Try.prog w = .ok (.tuple #[]) (w.setCells b o (List.replicate (n * 4) (.int .i64 0))) := by
  have hst := run_storeCells_cells (P := Try.prog) b o (List.replicate (n * 4) (Value.int .i64 0)) 0 w (by simpa using hc) (by simpa using hf) (by intro v hv'; rw [List.eq_of_mem_replicate hv']; rfl)
  simp only [Nat.add_zero] at hst
  obtain ⟨m, rfl⟩ : ∃ m, n = m + 1 := ⟨n - 1, by omega⟩
  have hzc := zeroCells4 (m + 1)
  simp [Builtin.clear_, run_underlying (by exact Try.underlying26), Try.zeroValue45, hzc, hst, Value.cells]

set_option maxHeartbeats 4000000 in
set_option maxRecDepth 1000000 in
theorem del_walk (g i j cap n : Nat) (cs : List Value) (w : World) (hcs : cs.length = n * 4) (hcell : ∀ t, t < n * 4 → w.cell? ⟨g, t, none⟩ = some (cs.getD t default)) (hfr : ∀ t, t < n * 4 → w.frozen? ⟨g, t, none⟩ = false)
    (hone : ∀ u ∈ cs, u.oneCell' = true) (hcap : n ≤ cap) (hlt : i < j) (hj : j ≤ n) :
    Calls Try.prog 62 #[.slice (some ⟨g, 0, none⟩) n cap, .int .i64 i, .int .i64 j] w fun e w' => e = .returned (.slice (some ⟨g, 0, none⟩) (i + (n - j)) cap) ∧
      ∃ W1, W1 = w.drew.setCells g (0 + i * 4) (cs.drop (j * 4)) ∧ w' = W1.setCells g ((i + (n - j)) * 4) (List.replicate ((n - (i + (n - j))) * 4) (.int .i64 0)) := by
  have mixed : Try.prog.follows .mixedOrders = true := by kernel_rfl
  have t34 := Try.underlying26
  have i26 : (Try.prog.info? 45).map (fun i => (i.zero, i.size, i.bytes)) = some (some (Value.agg #[.int .i64 0, .int .i64 0, .int .i64 0, .int .i64 0]), 4, 32) := by kernel_rfl
  obtain ⟨i0, hi0, hz0, hz1, hz2⟩ := info_parts i26
  obtain ⟨news, hnews⟩ : ∃ news, news = cs.drop (j * 4) := ⟨_, rfl⟩
  have hlen : news.length = (n - j) * 4 := by rw [hnews, List.length_drop, hcs, Nat.sub_mul]
  have hget : ∀ t, t < (n - j) * 4 → news[t]? = some (cs.getD (j * 4 + t) default) := by
    intro t ht
    have : j * 4 + t < cs.length := by omega
    rw [hnews, List.getElem?_drop, List.getD_eq_getElem?_getD, List.getElem?_eq_getElem this]
    rfl
  obtain ⟨A, hA, hsrc⟩ : ∃ A : Addr, (if cap = j then some (⟨g, 0, none⟩ : Addr) else some ⟨g, 0 + j * 4, none⟩) = some A ∧ Hid (∀ t u, news[t]? = some u → w.drew.cell? (A.add t) = some u) := by
    by_cases h : cap = j
    · refine ⟨⟨g, 0, none⟩, by simp [h], fun t u hu => ?_⟩
      have h0 : news.length = 0 := by rw [hlen]; omega
      rw [List.length_eq_zero_iff.1 h0] at hu
      simp at hu
    · refine ⟨⟨g, 0 + j * 4, none⟩, by simp [h], fun t u hu => ?_⟩
      have ht : t < (n - j) * 4 := by
        have := (List.getElem?_eq_some_iff.1 hu).1
        rwa [hlen] at this
      rw [hget t ht] at hu
      rw [Addr.add_lit, show 0 + j * 4 + t = j * 4 + t by omega]
      exact (hcell (j * 4 + t) (by omega)).trans hu
  have s1 : Hid (news.length = (n - j) * 4) := hlen
  have s2 : Hid (∀ u ∈ news, u.oneCell' = true) := by
    intro u hu
    rw [hnews] at hu
    exact hone u (List.mem_of_mem_drop hu)
  have s3 : Hid (∀ t, t < news.length → (w.drew.cell? ⟨g, 0 + i * 4 + t, none⟩).isSome = true ∧ w.drew.frozen? ⟨g, 0 + i * 4 + t, none⟩ = false) := by
    intro t ht
    rw [hlen] at ht
    rw [show 0 + i * 4 + t = i * 4 + t by omega]
    exact ⟨by show (w.cell? _).isSome = true; rw [hcell (i * 4 + t) (by omega)]; rfl, hfr (i * 4 + t) (by omega)⟩
  obtain ⟨W1, hW1⟩ : ∃ W1, W1 = w.drew.setCells g (0 + i * 4) news := ⟨_, rfl⟩
  have hc1 : ∀ t, t < n * 4 → (W1.cell? ⟨g, t, none⟩).isSome = true := by
    intro t ht
    rw [hW1]
    refine World.isSome_setCells g news _ w.drew _ ?_
    show (w.cell? _).isSome = true
    rw [hcell t ht]; rfl
  have hf1 : ∀ t, t < n * 4 → W1.frozen? ⟨g, t, none⟩ = false := by
    intro t ht
    rw [hW1, World.frozen?_setCells]
    exact hfr t ht
  have hcl : ∀ ty c, (Builtin.clear_ #[26] ty #[.slice (some ⟨g, (i + (n - j)) * 4, none⟩) (n - (i + (n - j))) c]).run Try.prog W1 = .ok (.tuple #[]) (W1.setCells g ((i + (n - j)) * 4) (List.replicate ((n - (i + (n - j))) * 4) (.int .i64 0))) :=
    fun ty c => run_clear4 W1 ty g ((i + (n - j)) * 4) _ c (by omega) (fun t ht => hc1 _ (by omega)) (fun t ht => hf1 _ (by omega))
  have hW : Hid (W1 = w.drew.setCells g (0 + i * 4) news) := hW1
  have hic : i ≤ cap := by omega
  have hjc : j ≤ cap := by omega
  have hfin : Hid (W1 = w.drew.setCells g (0 + i * 4) (cs.drop (j * 4))) := by rw [← hnews]; exact hW1
  clear hW1 hc1 hf1 hget hnews hlen hcell hfr hone hcs
  go_enter Try.func62, Try.ntmps62
  go_wp2_with fail
  go_region_law_o (refine step_append_room rfl (.tmp 22) (.tmp 25) 26 rfl 45 i0 4 t34 hi0 hz1 g 0 i cap (by simp [Act.eval, Act.put]) A (n - j) (cap - j) news (by simpa [Act.eval, Act.put] using hA) s1.out hsrc.out s2.out (by omega) s3.out ?_; rw [← hW.out])
  go_wp2
  all_goals go_ret
  all_goals first
    | exact ⟨rfl, by rw [hfin.out, show 0 + i * 4 = i * 4 by omega]⟩
    | (refine And.intro rfl ?_; rw [hfin.out, show 0 + i * 4 = i * 4 by omega])

theorem repl_rep {K : KW} (n : Nat) : RepL K (List.replicate n (.int .i64 0)) (List.replicate n (Value.int .i64 0)) := by
  refine RepL.of (by simp) ?_
  intro i x v hx hv
  rw [List.getElem?_replicate] at hx hv
  split at hx
  case isFalse => cases hx
  rename_i h
  rw [if_pos h] at hv
  simp only [Option.some.injEq] at hx hv
  subst hx hv
  rfl
set_option maxRecDepth 20000 in
theorem natD_ok : ∀ args H r H', natD args H = some (r, H') → OpenOk Try.prog 62 args H r H' := by
  intro args H r H' h
  unfold natD at h
  split at h
  case h_2 => cases h
  rename_i b gen n i j
  simp only [Option.bind_eq_some_iff] at h
  obtain ⟨B, hB, h⟩ := h
  split at h
  case isFalse => cases h
  rename_i hBB
  obtain ⟨rfl, hmp0, hlen, hi0, hij, hjn⟩ := hBB
  simp only [Option.some.injEq, Prod.mk.injEq] at h
  obtain ⟨rfl, rfl⟩ := h
  obtain ⟨I, rfl⟩ : ∃ I : Nat, i = I := ⟨i.toNat, by omega⟩
  obtain ⟨J, rfl⟩ : ∃ J : Nat, j = J := ⟨j.toNat, by omega⟩
  simp only [Int.toNat_natCast]
  refine ⟨⟨Try.f62, rfl, by decide, rfl⟩, fun K vs hH hr => ?_⟩
  obtain ⟨v, rfl, hv⟩ : ∃ v, vs = #[v, .int .i64 I, .int .i64 J] ∧ Rep K (.msl true b B.gen 0 n 4) v := by
    obtain ⟨v, l, e, hv, v2, l2, rfl, hv2, v3, l3, rfl, hv3, hl⟩ := hr
    refine ⟨v, ?_, hv⟩
    apply Array.ext'
    rw [e, show v2 = .int .i64 I from hv2, show v3 = .int .i64 J from hv3, show l3 = [] from hl]
  obtain ⟨_, ⟨h0, _⟩ | ⟨g, m, c, hm, rfl, hc, hcm⟩⟩ := hv
  · omega
  obtain ⟨hH1, hX1⟩ := hH.drew
  obtain ⟨l, hl, hone, hcell⟩ := (hH.row hB hm).vals
  have hll : l.length = n * 4 := by rw [← hl.length]; exact hlen
  rcases hH1.blk b B hB with ⟨_, _, hno⟩ | ⟨_, _, _, _, _, hx, _⟩ | ⟨g', cur, _, hm', hh, _, _, hlc, hrc, h1c⟩
  · have : K.drew.μ b B.gen = some (g, m) := hm
    rw [this] at hno; cases hno
  · rw [hmp0] at hx; cases hx
  have hm1 : K.drew.μ b B.gen = some (g, m) := hm
  rw [hm1] at hm'
  obtain ⟨rfl, rfl⟩ : g = g' ∧ m = cur.size := by simpa using hm'
  have hfr : ∀ t, t < n * 4 → K.w.frozen? ⟨g, t, none⟩ = false := fun t _ => frozen_of_row K.w g _ cur B.e hh
  refine (del_walk g I J c n l K.w hll ?_ hfr hone hc (by omega) (by omega)).mono ?_
  · intro t ht
    have : t < l.length := by omega
    have h2 := hcell t l[t] (List.getElem?_eq_getElem this)
    rw [Nat.zero_add] at h2
    rw [h2, List.getD_eq_getElem?_getD, List.getElem?_eq_getElem this]
    rfl
  rintro e w' ⟨rfl, W1, rfl, rfl⟩
  have hl1 : RepL K.drew B.xs l := hl.mono K.drew_le
  obtain ⟨cur1, hh1, hs1, hsz1, hg1, hrep1⟩ := heap_setCells g B.e (l.drop (J * 4)) (0 + I * 4) K.w.drew cur hh
  obtain ⟨cur2, hh2, hs2, hsz2, hg2, hrep2⟩ := heap_setCells g B.e (List.replicate ((n - (I + (n - J))) * 4) (.int .i64 0)) ((I + (n - J)) * 4) _ cur1 hh1
  have hd : RepL K.drew (B.xs.drop (J * 4)) (l.drop (J * 4)) := hl1.drop _
  have hx1 := hrep1 K.drew B.xs (B.xs.drop (J * 4)) hrc hd (by rw [List.length_drop]; omega) hlc
  have hx2 := hrep2 K.drew _ (List.replicate ((n - (I + (n - J))) * 4) (.int .i64 0)) (by rw [length_setCells]; exact hx1) (repl_rep _) (by rw [length_setCells, List.length_replicate]; omega) (by rw [length_setCells]; omega)
  have hgg : K.drew.w.grownBy ((K.w.drew.setCells g (0 + I * 4) (l.drop (J * 4))).setCells g ((I + (n - J)) * 4) (List.replicate ((n - (I + (n - J))) * 4) (.int .i64 0))) (some g) :=
    ⟨hg2.os.trans hg1.os, hg2.tape.trans hg1.tape, hg2.output.trans hg1.output, Nat.le_trans hg1.size hg2.size, fun k hk hne => (hg2.block k (Nat.lt_of_lt_of_le hk hg1.size) hne).trans (hg1.block k hk hne)⟩
  rw [Nat.zero_add] at *
  have hle' : K.drew.Le ⟨(K.w.drew.setCells g (I * 4) (l.drop (J * 4))).setCells g ((I + (n - J)) * 4) (List.replicate ((n - (I + (n - J))) * 4) (.int .i64 0)), K.Z, K.Y, K.μ⟩ := ⟨hgg.os, hgg.tape, hgg.output, hgg.size, fun k hk => hgg.block k (hH1.lt k hk) (by
    intro e
    obtain rfl : k = g := by simpa using e
    exact hH1.notLive hk ⟨b, B, _, hB, hm⟩), fun _ h => h, fun _ h => h, fun _ _ _ h => h, MapsKeep.grown hgg (by
    intro k es c e
    obtain rfl : g = k := by simpa using e
    exact hH1.noMap hB hmp0 hm1 es c)⟩
  have hdl : (delC B.xs n I J).length = B.xs.length := by unfold delC; rw [length_setCells, length_setCells]
  have h1d : (B.xs.drop (J * 4)).all PV.one = true := by
    rw [List.all_eq_true] at h1c ⊢
    exact fun x hx => h1c x (List.mem_of_mem_drop hx)
  obtain ⟨hH', hE⟩ := hH1.put hgg (by rw [hsz2, hsz1]; rfl) hB hmp0 hm1 hh2 (by rw [hs2, hs1]) (delC B.xs n I J) (by rw [hdl]; exact hlc) (by
    have := hx2.mono hle'
    rw [length_setCells] at this
    rw [hdl]
    exact this) (by
    unfold delC
    exact all_setCells _ _ _ _ (all_setCells _ _ _ _ h1c h1d) (by simp [PV.one]))
  exact ⟨_, _, rfl, rfl, hX1.trans hE, hH', by decide, .inr ⟨g, _, c, hm, rfl, by omega, hcm⟩⟩
end Go.Proofs.Ytfocelelbcepnaa
