/- The pure machine, part 3: its operations, and that each does what the model's does. -/
import Derived.Test.YtmbknidfkddpfaaPmTwo
import Derived.ArgAppend
import Derived.Laws.StructEq
set_option linter.unusedVariables false
set_option linter.unusedSimpArgs false
namespace Go.Proofs.Ytmbknidfkddpfaa.PM

/-- Cells of a row from a place on. -/
def setCells : List PV → Nat → List PV → List PV
  | xs, _, [] => xs
  | xs, o, y :: ys => setCells (xs.set o y) (o + 1) ys
theorem length_setCells : ∀ (ys xs : List PV) (o : Nat), (setCells xs o ys).length = xs.length
  | [], _, _ => rfl
  | y :: ys, xs, o => by simp [setCells, length_setCells ys]
theorem all_setCells (p : PV → Bool) : ∀ (ys xs : List PV) (o : Nat), xs.all p = true → ys.all p = true → (setCells xs o ys).all p = true
  | [], _, _, h, _ => h
  | y :: ys, xs, o, h, hy => by
    simp only [List.all_cons, Bool.and_eq_true] at hy
    refine all_setCells p ys _ _ ?_ hy.2
    rw [List.all_eq_true] at h ⊢
    intro x hx
    rcases List.mem_or_eq_of_mem_set hx with hx | rfl
    · exact h x hx
    · exact hy.1

def evPick (c a b : PV) : Option PV := match c with | .bool t => some (if t then a else b) | _ => none
def evBoxp (v : PV) : Option PV := if v.cells.all PV.one && PV.pureLB v.cells then some (.pptr (!PV.cleanLB v.cells) v.cells 0) else none
def evBoxm (e : TypeId) (v : PV) (H : Hp) : Option (PV × Hp) := if v.cells.all PV.one then some (.mptr H.length 0 0, H ++ [⟨e, 0, v.cells, none⟩]) else none

def cutV (n : Option Nat) (xs : List PV) (off : Nat) : Option PV :=
  match n with
  | none => xs[off]?
  | some k => if off + k ≤ xs.length then some (.agg ((xs.drop off).take k)) else none
def evLd (n : Option Nat) (v : PV) (H : Hp) : Option PV :=
  match v with
  | .pptr _ xs off => cutV n xs off
  | .mptr b gen off => match H[b]? with
    | some B => if B.gen = gen then cutV n B.xs off else none
    | none => none
  | _ => none
def evSt (n : Nat) (a v : PV) (H : Hp) : Option Hp :=
  match a with
  | .mptr b gen off => match H[b]? with
    | some B => if B.gen = gen ∧ v.cells.length = n ∧ 0 < n ∧ off + n ≤ B.xs.length ∧ v.cells.all PV.one = true then some (H.set b ⟨B.e, B.gen, setCells B.xs off v.cells, none⟩) else none
    | none => none
  | _ => none

/-! ### Simple operations -/
section
variable {P : Program} {o : Oper} {a : Act} {K : KW} {H : Hp}

theorem ok_mv {X : Operand} {x : PV} (ho : o.op = .move X ∨ o.op = .assign X) (hH : HRel K H) (hx : Rep K x (a.eval X)) : OpOk P o a K H x H := by
  refine OpOk.of_same (rv := a.eval X) ?_ hH hx
  rcases ho with ho | ho <;> simp [execOp, ho]

theorem ok_pick {C A B : Operand} {c x y r : PV} (ho : o.op = .pick C A B) (hH : HRel K H) (hc : Rep K c (a.eval C)) (hx : Rep K x (a.eval A)) (hy : Rep K y (a.eval B)) (he : evPick c x y = some r) : OpOk P o a K H r H := by
  cases c <;> simp only [evPick, reduceCtorEq] at he
  rename_i t
  simp only [Option.some.injEq] at he
  have hc' : a.eval C = .bool t := hc
  cases t
  · simp at he; subst he
    exact OpOk.of_same (rv := a.eval B) (by simp [execOp, ho, hc', asBool]) hH hy
  · simp at he; subst he
    exact OpOk.of_same (rv := a.eval A) (by simp [execOp, ho, hc', asBool]) hH hx

theorem run_box (e : TypeId) (v : Value) (w : World) : (Instr.box e v).run P w = .ok (.pointer (some ⟨w.heap.size, 0, none⟩)) (w.alloc (.cells v.cells e)) := by
  simp [Instr.box, newVar, newRow]

theorem ok_boxp {e : TypeId} {X : Operand} {x r : PV} (ho : o.op = .box e X) (hH : HRel K H) (hx : Rep K x (a.eval X)) (he : evBoxp x = some r) : OpOk P o a K H r H := by
  unfold evBoxp at he
  split at he
  case isFalse => cases he
  rename_i hc
  simp only [Bool.and_eq_true] at hc
  simp only [Option.some.injEq] at he
  subst he
  obtain ⟨hr, h1⟩ := hx.cells hc.1
  obtain ⟨hH', hE⟩ := hH.withZ (.cells (a.eval X).cells e)
  refine OpOk.of_run (K' := K.withZ (.cells (a.eval X).cells e)) (rv := .pointer (some ⟨K.w.heap.size, 0, none⟩)) (by simp [execOp, ho, run_box, KW.withZ]) hE hH' ?_
  have hr' := hr.mono hE.le
  refine ⟨?_, Nat.zero_le _, K.w.heap.size, 0, rfl, .inl (.inr rfl), RepRow.new (KW.withZ_at K _ e) hr' hc.1⟩
  split
  · exact RepL.pure_of _ _ hr' hc.2
  · rename_i hn
    exact RepL.clean_of _ _ hr' (by simpa using hn)

theorem ok_boxm {e : TypeId} {X : Operand} {x r : PV} {H' : Hp} (ho : o.op = .box e X) (hH : HRel K H) (hx : Rep K x (a.eval X)) (he : evBoxm e x H = some (r, H')) : OpOk P o a K H r H' := by
  unfold evBoxm at he
  split at he
  case isFalse => cases he
  rename_i hc
  simp only [Option.some.injEq, Prod.mk.injEq] at he
  obtain ⟨rfl, rfl⟩ := he
  obtain ⟨hr, h1⟩ := hx.cells hc
  have hl : x.cells.length = (a.eval X).cells.size := by simpa using hr.length
  obtain ⟨hH', hE⟩ := hH.withM (a.eval X).cells e x.cells (Nat.le_of_eq hl) (by rw [hl, List.take_of_length_le (by simp)]; exact hr) hc
  refine OpOk.of_run (K' := K.withM H (a.eval X).cells e) (rv := .pointer (some ⟨K.w.heap.size, 0, none⟩)) (by simp [execOp, ho, run_box, KW.withM]) hE hH' ?_
  exact ⟨_, _, muSet_same _ _ _ _, rfl⟩

/-- 'alloc': the zero value of a type in a new variable. -/
theorem ok_alloc {e : TypeId} {z r : PV} {zv : Value} {i : TypeInfo} {H' : Hp} (ho : o.op = .alloc e) (hi : P.info? e = some i) (hz : i.zero = some zv) (hrz : Rep K z zv) (hH : HRel K H) (he : evBoxm e z H = some (r, H')) : OpOk P o a K H r H' := by
  unfold evBoxm at he
  split at he
  case isFalse => cases he
  rename_i hc
  simp only [Option.some.injEq, Prod.mk.injEq] at he
  obtain ⟨rfl, rfl⟩ := he
  obtain ⟨hr, h1⟩ := hrz.cells hc
  have hl : z.cells.length = zv.cells.size := by simpa using hr.length
  obtain ⟨hH', hE⟩ := hH.withM zv.cells e z.cells (Nat.le_of_eq hl) (by rw [hl, List.take_of_length_le (by simp)]; exact hr) hc
  refine OpOk.of_run (K' := K.withM H zv.cells e) (rv := .pointer (some ⟨K.w.heap.size, 0, none⟩)) ?_ hE hH' ⟨_, _, muSet_same _ _ _ _, rfl⟩
  simp [execOp, ho, Instr.alloc, zeroValue, typeInfo, hi, hz, newVar, newRow, KW.withM]

/-- A nil slice that is going to grow. -/
theorem ok_nacc {X : Operand} (e : TypeId) (sz : Nat) (hsz : 0 < sz) (ho : o.op = .move X ∨ o.op = .assign X) (hX : a.eval X = .slice none 0 0) (hH : HRel K H) :
    OpOk P o a K H (.msl true H.length 0 0 0 sz) (H ++ [⟨e, 0, [], none⟩]) := by
  obtain ⟨hH', hE⟩ := hH.withN e
  refine OpOk.of_run (K' := K) (rv := .slice none 0 0) ?_ hE hH' ⟨hsz, .inl ⟨rfl, .inl ⟨rfl, rfl⟩⟩⟩
  rcases ho with ho | ho <;> simp [execOp, ho, hX]
end

/-! ### Loads and stores -/
section
variable {P : Program}

def isAggT (P : Program) (t : TypeId) : Bool := match P.underlying t with | some (.struct _) | some (.array _ _) => true | _ => false
def hasT (P : Program) (t : TypeId) : Bool := (P.underlying t).isSome && (P.info? t).isSome

theorem run_isAgg {t : TypeId} (h : hasT P t = true) (w : World) : (isAgg t).run P w = .ok (isAggT P t) w := by
  unfold hasT at h
  simp only [Bool.and_eq_true, Option.isSome_iff_exists] at h
  obtain ⟨⟨d, hd⟩, _⟩ := h
  unfold isAgg isAggT
  rw [Sem.run_bind, run_underlying hd]
  rw [hd]
  cases d <;> rfl
theorem run_sizeOf {t : TypeId} (h : hasT P t = true) (w : World) : (sizeOf t).run P w = .ok (P.cellsOf t) w := by
  unfold hasT at h
  simp only [Bool.and_eq_true, Option.isSome_iff_exists] at h
  obtain ⟨_, i, hi⟩ := h
  simp [sizeOf, typeInfo, hi, Program.cellsOf]

theorem add_plain (g o n : Nat) : (⟨g, o, none⟩ : Addr).add n = ⟨g, o + n, none⟩ := by unfold Addr.add; split <;> simp_all

/-- What is read of a row. -/
theorem run_loadVar_pv {t : TypeId} (h : hasT P t = true) {K : KW} {xs : List PV} {g o : Nat} (hrow : RepRow K xs g o) {n : Option Nat} (hn : n = if isAggT P t then some (P.cellsOf t) else none) {off : Nat} {r : PV}
    (he : cutV n xs off = some r) : ∃ v, (loadVar t ⟨g, o + off, none⟩).run P K.w = .ok v K.w ∧ Rep K r v := by
  unfold loadVar
  rw [Sem.run_bind, run_isAgg h]
  simp only [Result.andThen_ok]
  by_cases hA : isAggT P t = true
  · rw [hA, if_pos rfl] at hn
    rw [if_pos hA]
    subst hn
    unfold cutV at he
    simp only at he
    split at he
    case isFalse => cases he
    rename_i hle
    simp only [Option.some.injEq] at he
    subst he
    obtain ⟨l, hl, h1, hc⟩ := ((hrow.drop off).take (P.cellsOf t)).vals
    have hlen : l.length = P.cellsOf t := by
      rw [← hl.length, List.length_take, List.length_drop]; omega
    rw [Sem.run_bind, run_sizeOf h]
    simp only [Result.andThen_ok]
    have hrun := run_loadCells_list (P := P) K.w ⟨g, o + off, none⟩ l (fun j v hv => by rw [add_plain]; exact hc j v hv)
    rw [hlen] at hrun
    rw [Sem.run_bind, hrun]
    exact ⟨_, rfl, _, rfl, by simpa using hl⟩
  · rw [if_neg hA] at hn
    rw [if_neg hA]
    subst hn
    obtain ⟨v, hv, _, _, hr⟩ := hrow.get off r he
    exact ⟨v, by rw [run_load, hv], hr⟩

theorem HRel.row {K : KW} {H : Hp} (hH : HRel K H) {b : Nat} {B : Blk} (hb : H[b]? = some B) {g n : Nat} (hm : K.μ b B.gen = some (g, n)) : RepRow K B.xs g 0 := by
  rcases hH.blk b B hb with ⟨h0, _, hn⟩ | ⟨_, _, _, _, hx0, _⟩ | ⟨g', cur, _, hm', hh, _, _, hl, hr, h1⟩
  · rw [hm] at hn; cases hn
  · rw [hx0]; trivial
  · rw [hm] at hm'
    obtain ⟨rfl, _⟩ : g = g' ∧ n = cur.size := by simpa using hm'
    refine RepRow.of fun i x hx => ?_
    obtain ⟨v, hv, hrx⟩ := hr.get i x hx
    have hx1 : x.one = true := (List.all_eq_true.1 h1) x (List.mem_of_getElem? hx)
    refine ⟨v, ?_, hrx.one hx1, hx1, hrx⟩
    rw [Nat.zero_add, cell_of_row K.w g i cur B.e (0, 0) hh]
    rw [List.getElem?_take] at hv
    split at hv
    · simpa using hv
    · cases hv

theorem ok_ld {o : Oper} {a : Act} {K : KW} {H : Hp} {t : TypeId} {X : Operand} {x r : PV} {n : Option Nat} (ho : o.op = .load t X) (ht : hasT P t = true) (hn : n = if isAggT P t then some (P.cellsOf t) else none)
    (hH : HRel K H) (hx : Rep K x (a.eval X)) (he : evLd n x H = some r) : OpOk P o a K H r H := by
  cases x <;> simp only [evLd, reduceCtorEq] at he
  case pptr bor xs off =>
    obtain ⟨hcl, hle, g, oo, hv, hs, hrow⟩ := hx
    obtain ⟨v, hrun, hr⟩ := run_loadVar_pv ht hrow hn he
    refine OpOk.of_same (rv := v) ?_ hH hr
    simp [execOp, ho, hv, Instr.loadAt, Instr.sureAddr, hrun]
  case mptr b gen off =>
    obtain ⟨g, nn, hm, hv⟩ := hx
    split at he
    case h_2 => cases he
    rename_i B hB
    split at he
    case isFalse => cases he
    rename_i hg
    subst hg
    obtain ⟨v, hrun, hr⟩ := run_loadVar_pv ht (hH.row hB hm) hn he
    rw [Nat.zero_add] at hrun
    refine OpOk.of_same (rv := v) ?_ hH hr
    simp [execOp, ho, hv, Instr.loadAt, Instr.sureAddr, hrun]

/-- A row's cells behind stores. -/
theorem heap_setCells (g : Nat) (e : TypeId) : ∀ (vs : List Value) (o : Nat) (w : World) (cur : Array Value), w.heap[g]? = some (.cells cur e (0, 0)) →
    ∃ cur', (w.setCells g o vs).heap[g]? = some (.cells cur' e (0, 0)) ∧ cur'.size = cur.size ∧ (w.setCells g o vs).heap.size = w.heap.size ∧ w.grownBy (w.setCells g o vs) (some g) ∧
      ∀ K (xs ys : List PV), RepL K xs (cur.toList.take xs.length) → RepL K ys vs → o + ys.length ≤ xs.length → xs.length ≤ cur.size → RepL K (setCells xs o ys) (cur'.toList.take xs.length)
  | [], o, w, cur, h => by
    refine ⟨cur, h, rfl, rfl, ⟨rfl, rfl, rfl, Nat.le_refl _, fun _ _ _ => rfl⟩, ?_⟩
    intro K xs ys hx hy _ _
    cases ys with
    | nil => exact hx
    | cons y ys => obtain ⟨_, _, e, _⟩ := hy; cases e
  | v :: vs, o, w, cur, h => by
    have h1 := heap_setCell_same w g o cur e v h
    obtain ⟨cur', hh, hs, hsz, hg, hr⟩ := heap_setCells g e vs (o + 1) (w.setCell ⟨g, o, none⟩ v) _ h1
    refine ⟨cur', by rw [World.setCells]; exact hh, by rw [hs]; simp, by rw [World.setCells, hsz]; simp, ?_, ?_⟩
    · rw [World.setCells]
      have hstep : w.grownBy (w.setCell ⟨g, o, none⟩ v) (some g) := ⟨rfl, rfl, rfl, by simp, fun k _ hk => heap_setCell_other w ⟨g, o, none⟩ k v (fun e => hk (by simp [e]))⟩
      exact ⟨hg.os.trans hstep.os, hg.tape.trans hstep.tape, hg.output.trans hstep.output, Nat.le_trans hstep.size hg.size, fun k hk hne => (hg.block k (Nat.lt_of_lt_of_le hk hstep.size) hne).trans (hstep.block k hk hne)⟩
    · intro K xs ys hx hy hl hxl
      cases ys with
      | nil => cases hy
      | cons y ys =>
        obtain ⟨v', vs', e, hv, hvs⟩ := hy
        simp only [List.cons.injEq] at e
        obtain ⟨rfl, rfl⟩ := e
        simp only [List.length_cons] at hl
        have := hr K (xs.set o y) ys (by
          rw [List.length_set, Array.toList_setIfInBounds, List.take_set]
          exact hx.set o hv) hvs (by rw [List.length_set]; omega) (by simpa using hxl)
        rw [List.length_set] at this
        exact this

theorem run_storeVar_pv {t : TypeId} (h : hasT P t = true) {w : World} {g off : Nat} {v : Value} {cur : Array Value} {e : TypeId} (hg : w.heap[g]? = some (.cells cur e (0, 0))) (hn : v.cells.size = P.cellsOf t) (hl : off + v.cells.size ≤ cur.size)
    (h1 : ∀ u ∈ v.cells.toList, u.oneCell' = true) : (storeVar t ⟨g, off, none⟩ v).run P w = .ok () (w.setCells g off v.cells.toList) := by
  unfold storeVar
  rw [Sem.run_bind, run_sizeOf h]
  simp only [Result.andThen_ok]
  rw [if_neg (by simpa using hn)]
  have := run_storeCells_cells (P := P) g off v.cells.toList 0 w (fun j hj => by
    rw [Nat.add_zero, cell_of_row w g _ cur e (0, 0) hg]
    simp only [Array.length_toList] at hj
    simp [Array.getElem?_eq_getElem (show off + j < cur.size by omega)]) (fun j hj => by
    exact frozen_of_row w g _ cur e hg) h1
  simpa using this

theorem ok_st {o : Oper} {a : Act} {K : KW} {H H' : Hp} {t : TypeId} {A X : Operand} {x y : PV} {n : Nat} (ho : o.op = .store t A X) (ht : hasT P t = true) (hn : n = P.cellsOf t)
    (hH : HRel K H) (hx : Rep K x (a.eval A)) (hy : Rep K y (a.eval X)) (he : evSt n x y H = some H') : OpOk P o a K H .undef H' := by
  cases x <;> simp only [evSt, reduceCtorEq] at he
  case mptr b gen off =>
    obtain ⟨g, nn, hm, hv⟩ := hx
    split at he
    case h_2 => cases he
    rename_i B hB
    split at he
    case isFalse => cases he
    rename_i hc
    obtain ⟨rfl, hl, h0, hle, hone⟩ := hc
    simp only [Option.some.injEq] at he
    subst he
    obtain ⟨hr, h1⟩ := hy.cells hone
    rcases hH.blk b B hB with ⟨_, _, hno⟩ | ⟨_, _, _, _, hx0, _⟩ | ⟨g', cur, hp, hm', hh, _, _, hlc, hrc, h1c⟩
    · rw [hm] at hno; cases hno
    · rw [hx0] at hle; simp at hle; omega
    · rw [hm] at hm'
      obtain ⟨rfl, rfl⟩ : g = g' ∧ nn = cur.size := by simpa using hm'
      have hs : (a.eval X).cells.size = n := by have := hr.length; simp at this; omega
      obtain ⟨cur', hh', hs', hsz, hg, hrep⟩ := heap_setCells g B.e (a.eval X).cells.toList off K.w cur hh
      have hrun := run_storeVar_pv (P := P) ht (off := off) hh (by rw [hs, hn]) (by omega) h1
      have hxs := hrep K B.xs y.cells hrc hr (by omega) hlc
      have hle' : K.Le ⟨K.w.setCells g off (a.eval X).cells.toList, K.Z, K.Y, K.μ⟩ := ⟨hg.os, hg.tape, hg.output, hg.size, fun k hk => hg.block k (hH.lt k hk) (by
        intro e
        obtain rfl : k = g := by simpa using e
        exact hH.notLive hk ⟨b, B, _, hB, hm⟩), fun _ h => h, fun _ h => h, fun _ _ _ h => h, MapsKeep.grown hg (by
        intro k es c e
        obtain rfl : g = k := by simpa using e
        exact hH.noMap hB hp hm es c)⟩
      obtain ⟨hH', hE⟩ := hH.put hg hsz hB hp hm hh' hs' (setCells B.xs off y.cells) (by rw [length_setCells]; exact hlc) (by rw [length_setCells]; exact hxs.mono hle')
        (all_setCells _ _ _ _ h1c hone)
      refine OpOk.of_skip (K' := ⟨K.w.setCells g off (a.eval X).cells.toList, K.Z, K.Y, K.μ⟩) ?_ hE hH'
      simp [execOp, ho, hv, Instr.storeAt, Instr.sureAddr, hrun]
end
end Go.Proofs.Ytmbknidfkddpfaa.PM
