/- Several texts in one: SpanSort, SpanSort2, SpanClo. -/
import Derived.Test.YtpnhdcjfhlcgoaaSpanCmp
import Derived.Test.YtpnhdcjfhlcgoaaSpanLays2
import Derived.Shelf.SlSortCmp.InsertionK
import Derived.Shelf.SlSortCmp.NoneTotal
import Derived.WalkKit
import Derived.Deep.LoopGhost
import Derived.Lib.Walk
import Derived.Shelf.RegionOpenPlain
section
set_option linter.unusedVariables false
set_option linter.unusedSimpArgs false
set_option maxHeartbeats 1000000
set_option maxRecDepth 20000
namespace Go.Proofs.Ytpnhdcjfhlcgoaa
open Go.Proofs.Ytpnhdcjfhlcgoaa.PM Go.Sort
open Go.RowKit (Below)

instance : Inhabited Sp := ⟨⟨0, 0, 0, 0⟩⟩
theorem ltS_iff (s t : Sp) : ltS s t = true ↔ s.k < t.k ∨ (s.k = t.k ∧ (s.a < t.a ∨ (s.a = t.a ∧ (s.b < t.b ∨ (s.b = t.b ∧ s.u < t.u))))) := by
  unfold ltS
  by_cases c1 : s.k = t.k
  · by_cases c2 : s.a = t.a
    · by_cases c3 : s.b = t.b
      · simp [c1, c2, c3]
      · simp [c1, c2, c3]
    · simp [c1, c2]
  · simp [c1]
theorem ltS_no (s t : Sp) : ltS s t = false ↔ ¬ (s.k < t.k ∨ (s.k = t.k ∧ (s.a < t.a ∨ (s.a = t.a ∧ (s.b < t.b ∨ (s.b = t.b ∧ s.u < t.u)))))) := by
  rw [← ltS_iff]; simp
theorem ltS_tot {s t : Sp} (h1 : ltS s t = false) (h2 : ltS t s = false) : s = t := by
  rw [ltS_no] at h1 h2
  obtain ⟨k, a, b, u⟩ := s
  obtain ⟨k', a', b', u'⟩ := t
  dsimp only at h1 h2
  obtain rfl : k = k' := by omega
  obtain rfl : a = a' := by omega
  obtain rfl : b = b' := by omega
  obtain rfl : u = u' := by omega
  rfl
theorem ltOf_cmS (s t : Sp) : ltOf cmS s t = ltS s t := by
  have h := cmS_lt s t
  unfold ltOf
  cases hl : ltS s t
  · rw [hl] at h
    have : 0 ≤ cmS s t := by simpa using h
    simpa using this
  · rw [hl] at h
    have : ¬ 0 ≤ cmS s t := by simpa using h
    simp; omega
theorem swoS : SWO (ltOf cmS) where
  irrefl x := by rw [ltOf_cmS, ltS_no]; omega
  trans x y z h1 h2 := by rw [ltOf_cmS, ltS_iff] at *; omega
  ntrans x y z h1 h2 := by rw [ltOf_cmS, ltS_no] at *; omega

/-- A span's cells. -/
def encV (s : Sp) : List Value := [.int .i64 s.k, .int .i64 s.a, .int .i64 s.b, .int .i64 s.u]
def encZ (s : Sp) : List Int := [s.k, s.a, s.b, s.u]
def celZ (ys : List Sp) (t : Nat) : Int := (encZ (ys.getD (t / 4) ⟨0, 0, 0, 0⟩)).getD (t % 4) 0
theorem cl_at : ∀ (ys : List Sp) (t : Nat), t < ys.length * 4 → (cl ys)[t]? = some (.int .i64 (celZ ys t))
  | [], t, h => by simp at h
  | y :: ys, t, h => by
    rw [cl_cons]
    by_cases ht : t < 4
    · rw [List.getElem?_append_left (by simpa using ht)]
      unfold celZ
      rw [show t / 4 = 0 by omega]
      have : t = 0 ∨ t = 1 ∨ t = 2 ∨ t = 3 := by omega
      rcases this with rfl | rfl | rfl | rfl <;> rfl
    · rw [List.getElem?_append_right (by simp; omega)]
      have h4 : (Enc.enc y).length = 4 := rfl
      rw [h4, cl_at ys (t - 4) (by simp at h; omega)]
      unfold celZ
      rw [show t / 4 = (t - 4) / 4 + 1 by omega, show t % 4 = (t - 4) % 4 by omega]
      rfl
theorem flat_at (ys : List Sp) (t : Nat) (h : t < ys.length * 4) : (flatK encV 4 ys.toArray)[t]! = .int .i64 (celZ ys t) := by
  rw [get_flatK _ _ _ _ (by simpa using h)]
  have hlt : t / 4 < ys.length := by omega
  have h1 : ys.toArray[t / 4]! = ys.getD (t / 4) ⟨0, 0, 0, 0⟩ := by
    rw [getElem!_pos _ _ (by simpa using hlt)]
    simp [List.getD_eq_getElem?_getD, hlt]
  rw [h1]
  unfold celZ
  generalize ys.getD (t / 4) ⟨0, 0, 0, 0⟩ = s
  have : t % 4 = 0 ∨ t % 4 = 1 ∨ t % 4 = 2 ∨ t % 4 = 3 := by omega
  rcases this with h | h | h | h <;> rw [h] <;> rfl

/-- Another content for a row of numbers, draws and blocks behind. -/
theorem Below_rowV {K : KW} {H : Hp} (hH : HRel K H) {b g n : Nat} {B : Blk} (hb : H[b]? = some B) (hm : K.μ b B.gen = some (g, n)) {ys : List PV} {vs : Array Value} (hl : ys.length = B.xs.length) (hv : vs.size = ys.length)
    (hz : ∀ i, i < ys.length → ∃ z : Int, ys[i]? = some (.int .i64 z) ∧ vs[i]! = .int .i64 z) (q : Nat) (os : Array Obj) :
    ∃ K' : KW, K'.w = grow (putRow id (Sort.ahead K.w q) g 0 vs) os ∧ K'.μ = K.μ ∧ HRel K' (H.set b ⟨B.e, B.gen, ys⟩) ∧ Ext K H K' (H.set b ⟨B.e, B.gen, ys⟩) := by
  rcases hH.blk b _ hb with ⟨_, hno⟩ | ⟨g', cur, hm', hh, hzz, hy, hlc, hrc, h1c⟩
  · rw [hm] at hno; cases hno
  rw [hm] at hm'
  obtain ⟨rfl, rfl⟩ : g = g' ∧ n = cur.size := by simpa using hm'
  obtain ⟨w1, hw1⟩ : ∃ w1, w1 = putRow id (Sort.ahead K.w q) g 0 vs := ⟨_, rfl⟩
  have hheap : ∀ k, w1.heap[k]? = if g = k then some (.cells (putCells id 0 vs cur) B.e (0, 0)) else K.w.heap[k]? := by
    intro k
    rw [hw1]
    simp only [putRow, mapBlock, Sort.ahead, Array.getElem?_modify]
    by_cases hk : g = k
    · subst hk
      simp only [if_true, hh, Option.map_some, onCells]
    · simp only [if_neg hk]
  have hsz : w1.heap.size = K.w.heap.size := by rw [hw1]; simp [putRow, mapBlock, Sort.ahead]
  have hgb : K.w.grownBy w1 (some g) := by
    refine ⟨by rw [hw1]; rfl, by rw [hw1]; rfl, by rw [hw1]; rfl, Nat.le_of_eq hsz.symm, fun k hk hne => ?_⟩
    rw [hheap, if_neg (fun e => hne (by rw [e]))]
  have hcs : (putCells id 0 vs cur).size = cur.size := by simp [putCells]
  have hone : ys.all PV.one = true := by
    rw [List.all_eq_true]
    intro x hx
    obtain ⟨i, hi, rfl⟩ := List.getElem_of_mem hx
    obtain ⟨z, h1, _⟩ := hz i hi
    rw [List.getElem?_eq_getElem hi, Option.some.injEq] at h1
    rw [h1]; rfl
  have hrow : RepL ⟨w1, K.Z, K.Y, K.μ⟩ ys ((putCells id 0 vs cur).toList.take ys.length) := by
    refine RepL.of ?_ ?_
    · have hq : (putCells id 0 vs cur).toList.length = cur.size := by rw [Array.length_toList]; exact hcs
      rw [List.length_take, hq]
      omega
    · intro i x v hx hv'
      rw [List.getElem?_take] at hv'
      split at hv'
      case isFalse => cases hv'
      rename_i hi
      obtain ⟨z, h1, h2⟩ := hz i hi
      rw [h1, Option.some.injEq] at hx
      subst hx
      simp only [putCells, Array.getElem?_toList, Array.getElem?_mapIdx] at hv'
      rw [Option.map_eq_some_iff] at hv'
      obtain ⟨c, _, rfl⟩ := hv'
      rw [if_pos ⟨Nat.zero_le _, by omega⟩]
      show id vs[i - 0]! = _
      rw [Nat.sub_zero, id, h2]
  obtain ⟨hH', hX'⟩ := hH.put hgb hsz hb hm (cur' := putCells id 0 vs cur) (by rw [hheap, if_pos rfl]) hcs ys (by omega) hrow hone
  obtain ⟨hH2, hX2⟩ := hH'.grow0 (w' := grow w1 os) ⟨rfl, rfl, rfl, by simp [grow], fun k hk => by
      simp only [grow]
      rw [Array.getElem?_append_left hk]⟩
  exact ⟨⟨grow w1 os, K.Z, K.Y, K.μ⟩, by rw [hw1], rfl, hH2, hX'.trans hX2⟩
theorem holdsK_row {K : KW} {H : Hp} (hH : HRel K H) {b gen g n e : Nat} {zs : List Sp} (hb : H[b]? = some (bk e gen zs)) (hm : K.μ b gen = some (g, n)) : HoldsK encV 4 K.w g 0 zs.toArray ∧ g < K.w.heap.size := by
  have hl : (cl zs).length = zs.length * 4 := length_cl zs
  rcases hH.blk b _ hb with ⟨_, hno⟩ | ⟨g', cur, hm', hh, hzz, hy, hlc, hrc, h1c⟩
  · rw [hm] at hno; cases hno
  dsimp only at hm' hh hlc hrc h1c
  rw [hm] at hm'
  obtain ⟨rfl, rfl⟩ : g = g' ∧ n = cur.size := by simpa using hm'
  refine ⟨fun j hj => ?_, (Array.getElem?_eq_some_iff.1 hh).1⟩
  have hj' : j < zs.length * 4 := by simpa using hj
  obtain ⟨v, hv, hr⟩ := hrc.get j _ (cl_at zs j hj')
  have hvz : v = .int .i64 (celZ zs j) := hr
  rw [List.getElem?_take, if_pos (by omega), Array.getElem?_toList] at hv
  refine ⟨?_, frozen_of_row K.w g _ cur _ hh⟩
  rw [cell_of_row K.w g _ cur _ (0, 0) hh, Nat.zero_add, hv, hvz, id, flat_at zs j hj']
end Go.Proofs.Ytpnhdcjfhlcgoaa
end

section
set_option linter.unusedVariables false
set_option linter.unusedSimpArgs false
set_option maxHeartbeats 1000000
set_option maxRecDepth 20000
namespace Go.Proofs.Ytpnhdcjfhlcgoaa
open Go.Proofs.Ytpnhdcjfhlcgoaa.PM Go.Sort
open Go.RowKit (Below)

def decS : List PV → Option (List Sp)
  | [] => some []
  | .int .i64 k :: .int .i64 a :: .int .i64 b :: .int .i64 u :: r => (decS r).map (⟨k, a, b, u⟩ :: ·)
  | _ => none
theorem decS_cl : ∀ zs : List Sp, decS (cl zs) = some zs
  | [] => rfl
  | z :: zs => by
    show (decS (cl zs)).map (_ :: ·) = _
    rw [decS_cl zs]; rfl
theorem decS_some : ∀ {xs : List PV} {zs : List Sp}, decS xs = some zs → xs = cl zs := by
  intro xs zs h
  induction zs generalizing xs with
  | nil =>
    unfold decS at h
    split at h
    · rfl
    · rw [Option.map_eq_some_iff] at h
      obtain ⟨_, _, h⟩ := h
      cases h
    · cases h
  | cons z zs ih =>
    unfold decS at h
    split at h
    · cases h
    · rw [Option.map_eq_some_iff] at h
      obtain ⟨zs', h1, h2⟩ := h
      simp only [List.cons.injEq] at h2
      obtain ⟨rfl, rfl⟩ := h2
      rw [ih h1]
      rfl
    · cases h
/-- A sorted list. -/
def srtS (zs : List Sp) : List Sp := zs.mergeSort fun x y => !(ltOf cmS) y x
theorem len_srtS (zs : List Sp) : (srtS zs).length = zs.length := by simp [srtS]
/-- The call of slices.SortFunc. -/
noncomputable def natS (f : Nat) (args : List PV) (H : Hp) : Option (PV × Hp) := match args with
  | [.msl true b gen 0 n 4, .clo (.func 53) [] []] =>
    if f = 52 then
      (H[b]?).bind fun B => if B.gen = gen then (decS B.xs).bind fun zs => if zs.length = n ∧ n ≠ 0 ∧ n < 4611686018427387904 then some (.tup [], H.set b ⟨B.e, gen, cl (srtS zs)⟩) else none else none
    else none
  | _ => none
theorem cmpLays53 (blk off size : Nat) (w : World) : CmpLays Try.prog 53 #[] encV 4 cmS blk off size w :=
  fun _ _ _ _ x y => compare_walk x y _
theorem natS_ok : ∀ f args H r H', natS f args H = some (r, H') → OpenOk Try.prog f args H r H' := by
  intro f args H r H' h
  unfold natS at h
  split at h
  case h_2 => cases h
  rename_i b gen n
  split at h
  case isFalse => cases h
  rename_i hf
  subst hf
  simp only [Option.bind_eq_some_iff] at h
  obtain ⟨B, hB, h⟩ := h
  split at h
  case isFalse => cases h
  rename_i hgen
  subst hgen
  simp only [Option.bind_eq_some_iff] at h
  obtain ⟨zs, hzs, h⟩ := h
  split at h
  case isFalse => cases h
  rename_i hlen
  simp only [Option.some.injEq, Prod.mk.injEq] at h
  obtain ⟨rfl, rfl⟩ := h
  obtain ⟨e, gen, xs⟩ := B
  obtain rfl := decS_some hzs
  obtain ⟨rfl, hn0, hbig⟩ := hlen
  refine ⟨⟨Try.f52, rfl, by decide, rfl⟩, fun K vs hH hr => ?_⟩
  obtain ⟨v, rfl, hv⟩ : ∃ v, vs = #[v, .func (.func 53) #[] #[]] ∧ Rep K (.msl true b gen 0 zs.length 4) v := by
    obtain ⟨v, l, e, hv, v2, l2, rfl, ⟨f', c', hv2, hf', hc'⟩, hl⟩ := hr
    refine ⟨v, ?_, hv⟩
    apply Array.ext'
    have h1 : f' = #[] := Array.ext' (show f'.toList = [] from hf')
    have h2 : c' = #[] := Array.ext' (show c'.toList = [] from hc')
    rw [e, hv2, h1, h2, show l2 = [] from hl]
  obtain ⟨_, ⟨h0, _⟩ | ⟨g, m, c, hm, rfl, hc, hcm⟩⟩ := hv
  · exact absurd h0 hn0
  obtain ⟨hho, hgl⟩ := holdsK_row hH hB hm
  have eg : ∀ args w, (callFunc 53 args).run Try.prog w = .ok (.enter 53 args) w := enters_of Try.func53 (by kernel_rfl) rfl
  have hcon := AnyQ.slices_SortFunc_total laysSortF 4 Try.isAgg26 Try.sizeOf26 encV (fun _ => rfl) (fun x v hv => by simp [encV] at hv; rcases hv with rfl | rfl | rfl | rfl <;> rfl) cmS swoS 53 #[] g 0 c zs.toArray K.w eg (cmpLays53 _ _ _ _) hho hgl (by simpa using hbig)
    (fun x y h1 h2 => by rw [ltOf_cmS] at h1 h2; exact ltS_tot h1 h2)
  refine hcon.mono ?_
  rintro e' w' ⟨rfl, q, os, rfl⟩
  have hl4 : ∀ zs : List Sp, (cl zs).length = zs.length * 4 := fun zs => length_cl zs
  obtain ⟨K', hw, hmu, hH', hX'⟩ := Below_rowV hH hB hm (ys := cl (srtS zs)) (vs := flatK encV 4 (srtS zs).toArray) (by rw [hl4, len_srtS]; exact (hl4 zs).symm) (by simp [hl4]) (fun i hi => by
    rw [hl4] at hi
    exact ⟨celZ (srtS zs) i, cl_at _ _ hi, flat_at _ _ hi⟩) q os
  exact ⟨_, K', rfl, hw, hX', hH', _, rfl, rfl⟩
end Go.Proofs.Ytpnhdcjfhlcgoaa
end

section
set_option linter.unusedVariables false
set_option linter.unusedSimpArgs false
namespace Go.Proofs.Ytpnhdcjfhlcgoaa
open Go.Shelf Go.RowKit Go.Lib Go.Sort
set_option maxHeartbeats 2000000 in
set_option maxRecDepth 100000 in
theorem clone_walk_nil (c : Nat) (w : World) : Calls Try.prog 46 #[.slice none 0 c] w fun e w' => e = .returned (.slice none 0 0) ∧ w' = w := by
  have hq : ∀ w, (binOp .eql 34 (.slice none 0 c) (.slice none 0 0)).run Try.prog w = .ok (.bool true) w := by
    intro w
    have h1 : (Op.equal 34 (.slice none 0 c) (.slice none 0 0)).run Try.prog w = .ok true w := PM.run_equalIn_nil_right 9999 Try.underlying34 _ _ _ _ _ _
    simp only [binOp]
    simp
    rw [h1]
    rfl
  go_enter Try.func46, Try.ntmps46
  go_wp2
  go_ret
  exact ⟨rfl, rfl⟩
set_option maxHeartbeats 2000000 in
set_option maxRecDepth 100000 in
theorem clone_walk_some (A : Addr) (c : Nat) (w : World) : Calls Try.prog 46 #[.slice (some A) 0 c] w fun e w' => ∃ a, e = .returned (.slice a 0 0) ∧ ∃ os, w' = Go.Sort.grow w os := by
  have hq : ∀ w, (binOp .eql 34 (.slice (some A) 0 c) (.slice none 0 0)).run Try.prog w = .ok (.bool false) w := by
    intro w
    have h1 : (Op.equal 34 (.slice (some A) 0 c) (.slice none 0 0)).run Try.prog w = .ok false w := PM.run_equalIn_nil_right 9999 Try.underlying34 _ _ _ _ _ _
    simp only [binOp]
    simp
    rw [h1]
    rfl
  have t34 := Try.underlying34
  have i26 : (Try.prog.info? 26).map (fun i => (i.zero, i.size, i.bytes)) = some (some (Value.agg #[.int .i64 0, .int .i64 0, .int .i64 0, .int .i64 0]), 4, 32) := by kernel_rfl
  obtain ⟨i0, hi0, hz0, hz1, hz2⟩ := info_parts i26
  have happ : ∀ ao ty w, (Builtin.append_ #[34, 34] ty #[.slice ao 0 0, .slice (some A) 0 c]).run Try.prog w = .ok (.slice ao 0 0) w := fun ao ty w => PM.run_append_empty t34 hi0 ao _ 0 0 c (Nat.le_refl _) w
  clear hz0 hz1 hz2 hi0 i26
  go_enter Try.func46, Try.ntmps46
  go_wp2
  go_ret
  exact ⟨some ⟨w.heap.size, 0, none⟩, rfl, #[.cells #[] 26], Go.Sort.alloc_eq_grow _ _⟩
open Go.Proofs.Ytpnhdcjfhlcgoaa.PM
/-- The call of slices.Clone with no spans. -/
def natC (f : Nat) (args : List PV) (H : Hp) : Option (PV × Hp) := match args with
  | [.list _ 4 []] => if f = 46 then some (.list .ex 4 [], H) else none
  | _ => none
set_option maxRecDepth 20000 in
theorem natC_ok : ∀ f args H r H', natC f args H = some (r, H') → OpenOk Try.prog f args H r H' := by
  intro f args H r H' h
  unfold natC at h
  split at h
  case h_2 => cases h
  rename_i nl
  split at h
  case isFalse => cases h
  rename_i hf
  subst hf
  simp only [Option.some.injEq, Prod.mk.injEq] at h
  obtain ⟨rfl, rfl⟩ := h
  refine ⟨⟨Try.f46, rfl, by decide, rfl⟩, fun K vs hH hr => ?_⟩
  obtain ⟨ao, c, rfl⟩ : ∃ ao c, vs = #[.slice ao 0 c] := by
    obtain ⟨v, l, e, hv, hl⟩ := hr
    obtain ⟨_, _, ao, n, c, rfl, hn, _⟩ := hv
    have : n = 0 := by simp at hn; omega
    subst this
    refine ⟨ao, c, ?_⟩
    apply Array.ext'
    rw [e, show l = [] from hl]
  cases ao with
  | none =>
    refine (clone_walk_nil c K.w).mono ?_
    rintro e w' ⟨rfl, rfl⟩
    exact ⟨_, K, rfl, rfl, Ext.refl _ _, hH, by decide, by simp [PV.cleanL], none, 0, 0, rfl, rfl, rfl, .inl rfl⟩
  | some A =>
    refine (clone_walk_some A c K.w).mono ?_
    rintro e w' ⟨a, rfl, os, rfl⟩
    obtain ⟨hH2, hX2⟩ := hH.grow0 (w' := Go.Sort.grow K.w os) ⟨rfl, rfl, rfl, by simp [Go.Sort.grow], fun k hk => by
      simp only [Go.Sort.grow]
      rw [Array.getElem?_append_left hk]⟩
    exact ⟨_, _, rfl, rfl, hX2, hH2, by decide, by simp [PV.cleanL], a, 0, 0, rfl, rfl, rfl, .inl rfl⟩
end Go.Proofs.Ytpnhdcjfhlcgoaa
end
