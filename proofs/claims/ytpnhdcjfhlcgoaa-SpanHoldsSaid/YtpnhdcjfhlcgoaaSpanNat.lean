/- Spans: the library's sort and its compaction of numbers, as calls with the caller's small heap. -/
import Derived.Test.YtpnhdcjfhlcgoaaSpanTab
import Derived.Test.YtpnhdcjfhlcgoaaSpanLays
import Derived.Shelf.Sort.Plain
import Derived.Shelf.Slices.CompactI
import Derived.Shelf.Slices.In.SortNone
import Derived.Lib.RowBridge
import Derived.Test.YtpnhdcjfhlcgoaaSpanCode2
set_option linter.unusedVariables false
set_option linter.unusedSimpArgs false
set_option maxHeartbeats 1000000
set_option maxRecDepth 20000
namespace Go.Proofs.Ytpnhdcjfhlcgoaa
open Go.Proofs.Ytpnhdcjfhlcgoaa.PM Go.Sort
open Go.RowKit (Below)

/-- The numbers of a row of cells. -/
def decI : List PV → Option (List Int)
  | [] => some []
  | .int .i64 n :: r => (decI r).map (n :: ·)
  | _ => none
theorem decI_some : ∀ {xs : List PV} {zs : List Int}, decI xs = some zs → xs = cl zs
  | [], zs, h => by simp only [decI, Option.some.injEq] at h; subst h; rfl
  | x :: r, zs, h => by
    unfold decI at h
    split at h
    · cases ‹_ :: _ = []›
    · rename_i n r' e
      simp only [List.cons.injEq] at e
      obtain ⟨rfl, rfl⟩ := e
      rw [Option.map_eq_some_iff] at h
      obtain ⟨zs', h1, rfl⟩ := h
      rw [decI_some h1]
      rfl
    · cases h
theorem decI_cl : ∀ zs : List Int, decI (cl zs) = some zs
  | [] => rfl
  | z :: zs => by
    show (decI (cl zs)).map (z :: ·) = _
    rw [decI_cl zs]; rfl

theorem cl_int : ∀ {ys : List Int} {i : Nat} (h : i < ys.length), (cl ys)[i]? = some (PV.int .i64 ys[i])
  | y :: ys, 0, h => rfl
  | y :: ys, i + 1, h => by
    have := cl_int (ys := ys) (i := i) (by simpa using h)
    simpa [cl_cons] using this
theorem Below_row {K : KW} {H : Hp} (hH : HRel K H) {b gen g n : Nat} {zs ys : List Int} (hb : H[b]? = some (bk 3 gen zs)) (hm : K.μ b gen = some (g, n)) (hl : ys.length = zs.length) (q : Nat) (os : Array Obj) :
    ∃ K' : KW, K'.w = grow (putRow (Value.int .i64) (Sort.ahead K.w q) g 0 ys.toArray) os ∧ K'.μ = K.μ ∧ HRel K' (H.set b (bk 3 gen ys)) ∧ Ext K H K' (H.set b (bk 3 gen ys)) := by
  rcases hH.blk b _ hb with ⟨_, hno⟩ | ⟨g', cur, hm', hh, hz, hy, hlc, hrc, h1c⟩
  · rw [hm] at hno; cases hno
  dsimp only at hm' hh hlc hrc h1c
  rw [hm] at hm'
  obtain ⟨rfl, rfl⟩ : g = g' ∧ n = cur.size := by simpa using hm'
  obtain ⟨w1, hw1⟩ : ∃ w1, w1 = putRow (Value.int .i64) (Sort.ahead K.w q) g 0 ys.toArray := ⟨_, rfl⟩
  have hheap : ∀ k, w1.heap[k]? = if g = k then some (.cells (putCells (Value.int .i64) 0 ys.toArray cur) 3 (0, 0)) else K.w.heap[k]? := by
    intro k
    rw [hw1]
    simp only [putRow, mapBlock, Sort.ahead, Array.getElem?_modify]
    by_cases hk : g = k
    · subst hk
      simp only [if_true, hh, Option.map_some, onCells]
    · simp only [if_neg hk]
  have hsz : w1.heap.size = K.w.heap.size := by rw [hw1]; simp [putRow, mapBlock, Sort.ahead]
  have hgb : K.w.grownBy w1 (some g) := by
    refine ⟨by rw [hw1]; rfl, by rw [hw1]; rfl, by rw [hw1]; rfl, Nat.le_of_eq hsz.symm, fun k hk hne => ?_⟩
    rw [hheap, if_neg (fun e => hne (by rw [e]))]
  have hcs : (putCells (Value.int .i64) 0 ys.toArray cur).size = cur.size := by simp [putCells]
  have hlz : (cl zs).length = zs.length := by simp
  have hly : (cl ys).length = ys.length := by simp
  have hrow : RepL ⟨w1, K.Z, K.Y, K.μ⟩ (cl ys) ((putCells (Value.int .i64) 0 ys.toArray cur).toList.take (cl ys).length) := by
    refine RepL.of ?_ ?_
    · have hq : (putCells (Value.int .i64) 0 ys.toArray cur).toList.length = cur.size := by rw [Array.length_toList]; exact hcs
      rw [List.length_take, hq, hly]
      omega
    · intro i x v hx hv
      rw [hly] at hv
      rw [List.getElem?_take] at hv
      split at hv
      case isFalse => cases hv
      rename_i hi
      have hxi : (cl ys)[i]? = some (PV.int .i64 ys[i]) := cl_int hi
      rw [hxi, Option.some.injEq] at hx
      subst hx
      simp only [putCells, Array.getElem?_toList, Array.getElem?_mapIdx] at hv
      rw [Option.map_eq_some_iff] at hv
      obtain ⟨c, _, rfl⟩ := hv
      rw [if_pos ⟨Nat.zero_le _, by simpa using hi⟩]
      show _ = _
      simp [hi]
  obtain ⟨hH', hX'⟩ := hH.put hgb hsz hb hm (cur' := putCells (Value.int .i64) 0 ys.toArray cur) (by rw [hheap, if_pos rfl]) hcs (cl ys) (by omega) hrow (one_cl ys)
  obtain ⟨hH2, hX2⟩ := hH'.grow0 (w' := grow w1 os) ⟨rfl, rfl, rfl, by simp [grow], fun k hk => by
      simp only [grow]
      rw [Array.getElem?_append_left hk]⟩
  exact ⟨⟨grow w1 os, K.Z, K.Y, K.μ⟩, by rw [hw1], rfl, hH2, hX'.trans hX2⟩

/-- A sorted list. -/
def srt (zs : List Int) : List Int := zs.mergeSort fun x y => decide (x ≤ y)
/-- The calls that the library's contracts tell. -/
def natO2 (f : Nat) (args : List PV) (H : Hp) : Option (PV × Hp) := match args with
  | [.msl true b gen 0 n 1] =>
    if f = 49 then
      if n = 0 then some (.tup [], H) else
      (H[b]?).bind fun B => if B.gen = gen ∧ B.e = 3 then (decI B.xs).bind fun zs => if zs.length = n ∧ n < 4611686018427387904 then some (.tup [], H.set b (bk 3 gen (srt zs))) else none else none
    else if f = 50 then
      if n = 0 then some (.msl true b gen 0 0 1, H) else
      (H[b]?).bind fun B => if B.gen = gen ∧ B.e = 3 then (decI B.xs).bind fun zs => if zs.length = n ∧ n < 4611686018427387904 then some (mls Int b gen (Lib.compact zs).length, H.set b (bk 3 gen (Lib.compact zs ++ List.replicate (zs.length - (Lib.compact zs).length) 0))) else none else none
    else none
  | _ => none
theorem compact_le (zs : List Int) : (Lib.compact zs).length ≤ zs.length := Lib.compact_length_le zs
theorem len_srt (zs : List Int) : (srt zs).length = zs.length := by simp [srt]
theorem in49 : FnIn Try.prog 49 := ⟨Try.f49, rfl, by decide, rfl⟩
theorem holds_row {K : KW} {H : Hp} (hH : HRel K H) {b gen g n : Nat} {zs : List Int} (hb : H[b]? = some (bk 3 gen zs)) (hm : K.μ b gen = some (g, n)) : Holds (Value.int .i64) K.w g 0 zs.toArray ∧ g < K.w.heap.size := by
  rcases hH.blk b _ hb with ⟨_, hno⟩ | ⟨g', cur, hm', hh, hz, hy, hlc, hrc, h1c⟩
  · rw [hm] at hno; cases hno
  dsimp only at hm' hh hlc hrc h1c
  rw [hm] at hm'
  obtain ⟨rfl, rfl⟩ : g = g' ∧ n = cur.size := by simpa using hm'
  refine ⟨fun j hj => ?_, (Array.getElem?_eq_some_iff.1 hh).1⟩
  have hj' : j < zs.length := by simpa using hj
  obtain ⟨v, hv, hr⟩ := hrc.get j _ (cl_int hj')
  rw [List.getElem?_take] at hv
  split at hv
  case isFalse => cases hv
  have hv' : cur[j]? = some v := by simpa using hv
  refine ⟨?_, frozen_of_row _ _ _ _ _ hh⟩
  rw [Nat.zero_add, cell_of_row K.w g j cur 3 (0, 0) hh, hv', show v = Value.int .i64 zs[j] from hr]
  simp [hj']
theorem natO2_ok : ∀ f args H r H', natO2 f args H = some (r, H') → OpenOk Try.prog f args H r H' := by
  intro f args H r H' h
  unfold natO2 at h
  split at h
  case h_2 => cases h
  rename_i b gen n
  have harg : ∀ (K : KW) (vs : Array Value), HRel K H → RepL K [.msl true b gen 0 n 1] vs.toList → ∃ v, vs = #[v] ∧ Rep K (.msl true b gen 0 n 1) v := by
    intro K vs hH hr
    obtain ⟨v, l, e, hv, hl⟩ := hr
    refine ⟨v, ?_, hv⟩
    apply Array.ext'
    rw [e, show l = [] from hl]
  split at h
  · rename_i hf
    subst hf
    split at h
    · rename_i hn
      subst hn
      simp only [Option.some.injEq, Prod.mk.injEq] at h
      obtain ⟨rfl, rfl⟩ := h
      refine ⟨in49, fun K vs hH hr => ?_⟩
      obtain ⟨v, rfl, hv⟩ := harg K vs hH hr
      obtain ⟨p, cap, rfl⟩ : ∃ p cap, v = .slice p 0 cap := by
        obtain ⟨_, ⟨_, ⟨_, h⟩ | ⟨h, _⟩⟩ | ⟨g, m, c, _, h, _⟩⟩ := hv
        · exact ⟨_, _, h⟩
        · exact absurd rfl h
        · exact ⟨_, _, h⟩
      refine (Any.slices_Sort_int_none laysSort p cap K.w).mono ?_
      rintro e w' ⟨rfl, rfl⟩
      exact ⟨_, K, rfl, rfl, Ext.refl _ _, hH, _, rfl, rfl⟩
    · rename_i hn
      simp only [Option.bind_eq_some_iff] at h
      obtain ⟨B, hB, h⟩ := h
      split at h
      case isFalse => cases h
      rename_i hBB
      simp only [Option.bind_eq_some_iff] at h
      obtain ⟨zs, hzs, h⟩ := h
      split at h
      case isFalse => cases h
      rename_i hlen
      simp only [Option.some.injEq, Prod.mk.injEq] at h
      obtain ⟨rfl, rfl⟩ := h
      obtain ⟨e, gen', xs⟩ := B
      obtain ⟨rfl, rfl⟩ := hBB
      obtain rfl := decI_some hzs
      obtain ⟨rfl, hbig⟩ := hlen
      refine ⟨in49, fun K vs hH hr => ?_⟩
      obtain ⟨v, rfl, hv⟩ := harg K vs hH hr
      obtain ⟨_, ⟨h0, _⟩ | ⟨g, m, c, hm, rfl, hc, hcm⟩⟩ := hv
      · exact absurd h0 hn
      obtain ⟨hho, hgl⟩ := holds_row hH hB hm
      refine (Any.slices_Sort_int laysSort g 0 c zs K.w hho hgl hbig).mono ?_
      rintro e w' ⟨rfl, q, os, rfl⟩
      obtain ⟨K', hw, hmu, hH', hX'⟩ := Below_row hH hB hm (ys := srt zs) (len_srt zs) q os
      exact ⟨_, K', rfl, hw, hX', hH', _, rfl, rfl⟩
  split at h
  case isFalse => cases h
  rename_i hf
  subst hf
  split at h
  · rename_i hn
    subst hn
    simp only [Option.some.injEq, Prod.mk.injEq] at h
    obtain ⟨rfl, rfl⟩ := h
    obtain ⟨_, _, _, _, hin, _⟩ := fnOk_spec pf50_ok
    refine ⟨hin, fun K vs hH hr => ?_⟩
    obtain ⟨v, rfl, hv⟩ := harg K vs hH hr
    obtain ⟨p, cap, hvv⟩ : ∃ p cap, v = .slice p 0 cap := by
      obtain ⟨_, ⟨_, ⟨_, h⟩ | ⟨h, _⟩⟩ | ⟨g, m, c, _, h, _⟩⟩ := hv
      · exact ⟨_, _, h⟩
      · exact absurd rfl h
      · exact ⟨_, _, h⟩
    subst hvv
    refine (Any.slices_Compact_int_empty laysCompact p cap K.w).mono ?_
    rintro e w' ⟨rfl, rfl⟩
    exact ⟨_, K, rfl, rfl, Ext.refl _ _, hH, hv⟩
  · rename_i hn
    simp only [Option.bind_eq_some_iff] at h
    obtain ⟨B, hB, h⟩ := h
    split at h
    case isFalse => cases h
    rename_i hBB
    simp only [Option.bind_eq_some_iff] at h
    obtain ⟨zs, hzs, h⟩ := h
    split at h
    case isFalse => cases h
    rename_i hlen
    simp only [Option.some.injEq, Prod.mk.injEq] at h
    obtain ⟨rfl, rfl⟩ := h
    obtain ⟨e, gen', xs⟩ := B
    obtain ⟨rfl, rfl⟩ := hBB
    obtain rfl := decI_some hzs
    obtain ⟨rfl, hbig⟩ := hlen
    obtain ⟨_, _, _, _, hin, _⟩ := fnOk_spec pf50_ok
    refine ⟨hin, fun K vs hH hr => ?_⟩
    obtain ⟨v, rfl, hv⟩ := harg K vs hH hr
    obtain ⟨_, ⟨h0, _⟩ | ⟨g, m, c, hm, rfl, hc, hcm⟩⟩ := hv
    · exact absurd h0 hn
    obtain ⟨hho, hgl⟩ := holds_row hH hB hm
    refine (Any.slices_Compact_int laysCompact g 0 c zs K.w hho (by omega) hc).mono ?_
    rintro e w' ⟨rfl, q, rfl⟩
    have hle := compact_le zs
    obtain ⟨K', hw, hmu, hH', hX'⟩ := Below_row hH hB hm (ys := Lib.compact zs ++ List.replicate (zs.length - (Lib.compact zs).length) 0) (by simp; omega) q #[]
    rw [grow_empty] at hw
    refine ⟨_, K', rfl, hw, hX', hH', by decide, .inr ⟨g, m, c, by rw [hmu]; exact hm, rfl, by omega, hcm⟩⟩
end Go.Proofs.Ytpnhdcjfhlcgoaa
