/- The pure machine, part 5: literals, slices, append, equality of structs. -/
import Derived.Test.YtmbknidfkddpfaaPmFour
set_option linter.unusedVariables false
set_option linter.unusedSimpArgs false
namespace Go.Proofs.Ytmbknidfkddpfaa.PM

theorem cleanL_drop {xs : List PV} (h : PV.cleanL xs) (n : Nat) : PV.cleanL (xs.drop n) := PV.cleanL_iff.2 fun x hx => PV.cleanL_iff.1 h x (List.mem_of_mem_drop hx)
theorem cleanL_take {xs : List PV} (h : PV.cleanL xs) (n : Nat) : PV.cleanL (xs.take n) := PV.cleanL_iff.2 fun x hx => PV.cleanL_iff.1 h x (List.mem_of_mem_take hx)
theorem pureL_drop {xs : List PV} (h : PV.pureL xs) (n : Nat) : PV.pureL (xs.drop n) := PV.pureL_iff.2 fun x hx => PV.pureL_iff.1 h x (List.mem_of_mem_drop hx)
theorem pureL_take {xs : List PV} (h : PV.pureL xs) (n : Nat) : PV.pureL (xs.take n) := PV.pureL_iff.2 fun x hx => PV.pureL_iff.1 h x (List.mem_of_mem_take hx)

/-! ### Literals -/
def evFill : List PV → List (Nat × Nat × PV) → Option (List PV)
  | z, [] => some z
  | z, (off, size, x) :: r => if x.cells.length = size ∧ off + size ≤ z.length ∧ x.cells.all PV.one = true then evFill (setCells z off x.cells) r else none

theorem RepL.foldSet {K : KW} : ∀ (ys : List PV) (vs : List Value) (k off : Nat) (z : List PV) (cs : Array Value), RepL K z cs.toList → RepL K ys vs →
    RepL K (setCells z (off + k) ys) ((vs.zipIdx k).foldl (fun cs (x : Value × Nat) => cs.setIfInBounds (off + x.2) x.1) cs).toList
  | [], vs, k, off, z, cs, hz, hv => by
    rw [show vs = [] from hv]
    simpa [setCells] using hz
  | y :: ys, vs, k, off, z, cs, hz, hv => by
    obtain ⟨v, vs', rfl, hy, hys⟩ := hv
    simp only [List.zipIdx_cons, List.foldl_cons, setCells]
    rw [show off + k + 1 = off + (k + 1) from by omega]
    refine RepL.foldSet ys vs' (k + 1) off _ _ ?_ hys
    rw [Array.toList_setIfInBounds]
    exact hz.set _ hy

theorem fill_spec {K : KW} (place : Nat → Option (Nat × Nat)) : ∀ (ps : List (Nat × Nat × PV)) (vs : List (Nat × Value)) (z z' : List PV) (cs : Array Value), RepL K z cs.toList → ps.length = vs.length →
    (∀ (i : Nat) (p : Nat × Nat × PV) (v : Nat × Value), ps[i]? = some p → vs[i]? = some v → place v.1 = some (p.1, p.2.1) ∧ Rep K p.2.2 v.2) → evFill z ps = some z' →
    ∃ cs', Instr.fill place cs vs = some cs' ∧ RepL K z' cs'.toList
  | [], [], z, z', cs, hz, _, _, he => by
    simp only [evFill, Option.some.injEq] at he
    subst he
    exact ⟨cs, rfl, hz⟩
  | [], _ :: _, _, _, _, _, hl, _, _ => by simp at hl
  | _ :: _, [], _, _, _, _, hl, _, _ => by simp at hl
  | (off, size, x) :: ps, (i, v) :: vs, z, z', cs, hz, hl, hp, he => by
    simp only [evFill] at he
    split at he
    case isFalse => cases he
    rename_i hc
    obtain ⟨h1, h2, h3⟩ := hc
    obtain ⟨hpl, hx⟩ := hp 0 (off, size, x) (i, v) (by simp) (by simp)
    simp only at hpl hx
    obtain ⟨hr, _⟩ := hx.cells h3
    have hs : v.cells.size = size := by have := hr.length; simp at this; omega
    have hzl := hz.length
    simp only [Array.length_toList] at hzl
    simp only [Instr.fill, hpl]
    rw [if_neg (by simp [hs]; omega)]
    have hstep := RepL.foldSet x.cells v.cells.toList 0 off z cs hz hr
    rw [Nat.add_zero] at hstep
    refine fill_spec place ps vs _ z' _ ?_ (by simpa using hl) (fun i p u hp' hu => hp (i + 1) p u (by simpa using hp') (by simpa using hu)) he
    have harr : (v.cells.zipIdx.foldl (fun cs (x : Value × Nat) => cs.setIfInBounds (off + x.2) x.1) cs) = ((v.cells.toList.zipIdx 0).foldl (fun cs (x : Value × Nat) => cs.setIfInBounds (off + x.2) x.1) cs) := by
      rw [← Array.foldl_toList]
      simp
    rw [harr]
    exact hstep

section
variable {P : Program} {o : Oper} {a : Act} {K : KW} {H : Hp}

theorem run_mapM_list {α β : Type} (f : α → Sem β) (g : α → β) (w : World) : ∀ (l : List α), (∀ x ∈ l, (f x).run P w = .ok (g x) w) → (l.mapM f).run P w = .ok (l.map g) w
  | [], _ => by simp
  | x :: l, h => by
    simp only [List.mapM_cons, Sem.run_bind, h x (by simp), Result.andThen_ok, run_mapM_list f g w l (fun y hy => h y (by simp [hy])), Sem.run_pure, List.map_cons]
theorem run_mapM_array {α β : Type} (f : α → Sem β) (g : α → β) (w : World) (l : Array α) (h : ∀ x ∈ l.toList, (f x).run P w = .ok (g x) w) : (l.mapM f).run P w = .ok (l.map g) w := by
  rw [Array.mapM_eq_mapM_toList, Sem.run_map, run_mapM_list f g w l.toList h, Result.andThen_ok]
  congr 1
  apply Array.ext'
  simp

/-- A struct's or an array's literal. -/
def evBld (z : List PV) (ps : List (Nat × Nat × PV)) : Option PV := (evFill z ps).map .agg

def partsOk (fs : Array Field) (P : Program) (ps : List (Nat × Nat)) (is : List Nat) : Bool :=
  (ps.zip is).all fun (p, i) => match fs[i]? with | some f => p.1 == f.offset && p.2 == P.cellsOf f.type | none => false

theorem ok_bld_struct {t : TypeId} {parts : Array (Nat × Operand)} {i : TypeInfo} {zv : Value} {z : List PV} {fs : Array Field} {ps : List (Nat × Nat × PV)} {r : PV}
    (ho : o.op = .build t parts) (hi : P.info? t = some i) (hz : i.zero = some zv) (hrz : RepL K z zv.cells.toList) (ht : P.underlying t = some (.struct fs)) (hft : fs.toList.all (fun f => hasT P f.type) = true)
    (hl : ps.length = parts.size) (hp : ∀ (j : Nat) (p : Nat × Nat × PV) (q : Nat × Operand), ps[j]? = some p → parts[j]? = some q → (∃ f, fs[q.1]? = some f ∧ p.1 = f.offset ∧ p.2.1 = P.cellsOf f.type) ∧ Rep K p.2.2 (a.eval q.2))
    (hH : HRel K H) (he : evBld z ps = some r) : OpOk P o a K H r H := by
  unfold evBld at he
  rw [Option.map_eq_some_iff] at he
  obtain ⟨z', hz', rfl⟩ := he
  obtain ⟨cs', hf, hr⟩ := fill_spec (K := K) (fun j => (fs.map fun f => (f.offset, P.cellsOf f.type))[j]?) ps (parts.toList.map fun q => (q.1, a.eval q.2)) z z' zv.cells hrz (by simpa using hl) (fun j p v hp' hv => by
    rw [List.getElem?_map, Option.map_eq_some_iff] at hv
    obtain ⟨q, hq, rfl⟩ := hv
    obtain ⟨⟨f, hf, h1, h2⟩, hrp⟩ := hp j p q hp' (by simpa using hq)
    exact ⟨by simp [hf, h1, h2], hrp⟩) hz'
  refine OpOk.of_same (rv := .agg cs') ?_ hH ⟨_, rfl, hr⟩
  have hm := run_mapM_array (P := P) (fun f : Field => (do pure (f.offset, ← sizeOf f.type) : Sem (Nat × Nat))) (fun f => (f.offset, P.cellsOf f.type)) K.w fs (fun f hf' => by
    have := List.all_eq_true.1 hft f hf'
    simp [run_sizeOf this])
  simp only [execOp, ho, Instr.build, zeroValue, typeInfo, Sem.run_bind, run_program, Result.andThen_ok, hi, Sem.run_pure, hz, run_underlying ht, hm]
  rw [show (parts.map fun x => (x.1, a.eval x.2)).toList = parts.toList.map fun q => (q.1, a.eval q.2) from by simp]
  simp only [hf, Sem.run_pure, Result.andThen_ok]

theorem ok_bld_array {t e : TypeId} {n : Nat} {parts : Array (Nat × Operand)} {i : TypeInfo} {zv : Value} {z : List PV} {ps : List (Nat × Nat × PV)} {r : PV}
    (ho : o.op = .build t parts) (hi : P.info? t = some i) (hz : i.zero = some zv) (hrz : RepL K z zv.cells.toList) (ht : P.underlying t = some (.array n e)) (het : hasT P e = true)
    (hl : ps.length = parts.size) (hp : ∀ (j : Nat) (p : Nat × Nat × PV) (q : Nat × Operand), ps[j]? = some p → parts[j]? = some q → (p.1 = q.1 * P.cellsOf e ∧ p.2.1 = P.cellsOf e) ∧ Rep K p.2.2 (a.eval q.2))
    (hH : HRel K H) (he : evBld z ps = some r) : OpOk P o a K H r H := by
  unfold evBld at he
  rw [Option.map_eq_some_iff] at he
  obtain ⟨z', hz', rfl⟩ := he
  obtain ⟨cs', hf, hr⟩ := fill_spec (K := K) (fun j => some (j * P.cellsOf e, P.cellsOf e)) ps (parts.toList.map fun q => (q.1, a.eval q.2)) z z' zv.cells hrz (by simpa using hl) (fun j p v hp' hv => by
    rw [List.getElem?_map, Option.map_eq_some_iff] at hv
    obtain ⟨q, hq, rfl⟩ := hv
    obtain ⟨⟨h1, h2⟩, hrp⟩ := hp j p q hp' (by simpa using hq)
    exact ⟨by simp [h1, h2], hrp⟩) hz'
  refine OpOk.of_same (rv := .agg cs') ?_ hH ⟨_, rfl, hr⟩
  simp only [execOp, ho, Instr.build, zeroValue, typeInfo, Sem.run_bind, run_program, Result.andThen_ok, hi, Sem.run_pure, hz, run_underlying ht, run_sizeOf het]
  rw [show (parts.map fun x => (x.1, a.eval x.2)).toList = parts.toList.map fun q => (q.1, a.eval q.2) from by simp]
  simp only [hf, Sem.run_pure, Result.andThen_ok]

/-- n copies of an element's cells. -/
def rep (n : Nat) (z : List PV) : List PV := (List.range (n * z.length)).map fun i => z.getD (i % z.length) .undef
theorem rep_one (n : Nat) (z : PV) : rep n [z] = List.replicate n z := by
  apply List.ext_getElem?
  intro i
  by_cases h : i < n
  · simp [rep, h, Nat.mod_one]
  · simp [rep, h]
theorem length_rep (n : Nat) (z : List PV) : (rep n z).length = n * z.length := by simp [rep]
theorem all_rep (p : PV → Bool) (n : Nat) (z : List PV) (h : z.all p = true) : (rep n z).all p = true := by
  rw [List.all_eq_true] at h ⊢
  intro x hx
  simp only [rep, List.mem_map, List.mem_range] at hx
  obtain ⟨i, hi, rfl⟩ := hx
  have hz : 0 < z.length := by
    rcases Nat.eq_zero_or_pos z.length with e | e
    · rw [e] at hi; simp at hi
    · exact e
  have hlt : i % z.length < z.length := Nat.mod_lt _ hz
  rw [List.getD_eq_getElem?_getD, List.getElem?_eq_getElem hlt]
  exact h _ (List.getElem_mem _)
theorem RepL.made {K : KW} {z : List PV} {zv : Array Value} (h : RepL K z zv.toList) (n m : Nat) (hnm : n ≤ m) : RepL K (rep n z) ((madeCells zv (m * z.length)).toList.take (n * z.length)) := by
  have hl := h.length
  simp only [Array.length_toList] at hl
  have hle : n * z.length ≤ m * z.length := Nat.mul_le_mul_right _ hnm
  refine RepL.of (by simp [length_rep, size_madeCells, Nat.min_eq_left hle]) fun i x v hx hv => ?_
  rw [List.getElem?_take] at hv
  split at hv
  case isFalse => cases hv
  rename_i hi
  have hz : 0 < z.length := by
    rcases Nat.eq_zero_or_pos z.length with e | e
    · rw [e] at hi; simp at hi
    · exact e
  have hlt : i % z.length < z.length := Nat.mod_lt _ hz
  simp [rep, hi] at hx
  have hi2 : i < m * z.length := by omega
  have hx' : z[i % z.length]? = some x := by
    rw [List.getElem?_eq_getElem hlt] at hx ⊢
    simpa using hx
  obtain ⟨u, hu, hr⟩ := h.get _ _ hx'
  have hv' : v = u := by
    have h2 : zv[i % z.length]? = some u := by simpa using hu
    simp [madeCells, hi2] at hv
    rw [← hl] at hv
    rw [getElem!_def, h2] at hv
    exact hv.symm
  rw [hv']
  exact hr

/-- A slice's literal that is not written any more. -/
def evBsl (n sz : Nat) (z : List PV) (ps : List (Nat × Nat × PV)) : Option PV :=
  (evFill (rep n z) ps).bind fun xs => if PV.cleanLB xs && xs.all PV.one then some (.list .ex sz xs) else none
theorem length_evFill : ∀ (ps : List (Nat × Nat × PV)) (z z' : List PV), evFill z ps = some z' → z'.length = z.length
  | [], z, z', h => by simp only [evFill, Option.some.injEq] at h; rw [h]
  | (off, size, x) :: ps, z, z', h => by
    simp only [evFill] at h
    split at h
    · rw [length_evFill ps _ z' h, length_setCells]
    · cases h

theorem run_buildSlice {t e : TypeId} {n : Nat} {i : TypeInfo} {zv : Value} (ht : P.underlying t = some (.slice e)) (hi : P.info? e = some i) (hz : i.zero = some zv) (hzs : zv.cells.size = i.size) (hsz : 0 < i.size) (hn : n * i.size ≤ 16777216) (parts : Array (Nat × Value)) (w : World)
    {cs' : Array Value} (hf : Instr.fill (fun j => some (j * i.size, i.size)) (madeCells zv.cells (n * i.size)) parts.toList = some cs') :
    (Instr.buildSlice t n parts).run P w = .ok (.slice (some ⟨w.heap.size, 0, none⟩) n n) (w.alloc (.cells cs' e)) := by
  unfold Instr.buildSlice
  have h0 : ¬ (16777216 < n * i.size) := by omega
  have hq : ∀ (zz : Array Value), (n * i.size = 0 → zz = #[]) → (n * i.size ≠ 0 → zz = zv.cells) → (Array.range (n * i.size)).map (zz[· % zz.size]!) = madeCells zv.cells (n * i.size) := by
    intro zz h1 h2
    by_cases e : n * i.size = 0
    · rw [e]; simp [madeCells, Array.range_zero']
    · rw [h2 e]; rfl
  by_cases e0 : n * i.size = 0
  · simp only [Sem.run_bind, run_underlying ht, Result.andThen_ok, sizeOf, typeInfo, run_program, hi, Sem.run_pure, Sem.run_ite]
    rw [if_neg (by simpa using h0)]
    rw [if_pos e0]
    try simp only [Sem.run_pure, Result.andThen_ok]
    rw [hq #[] (fun _ => rfl) (fun q => absurd e0 q), hf]
    simp [newRow]
  · simp only [Sem.run_bind, run_underlying ht, Result.andThen_ok, sizeOf, typeInfo, run_program, hi, Sem.run_pure, Sem.run_ite]
    rw [if_neg (by simpa using h0)]
    rw [if_neg e0]
    simp only [zeroValue, typeInfo, Sem.run_bind, run_program, Result.andThen_ok, hi, Sem.run_pure, hz]
    rw [hq zv.cells (fun q => absurd q e0) (fun _ => rfl), hf]
    simp [newRow]

theorem bsl_fill {e : TypeId} {n : Nat} {parts : Array (Nat × Operand)} {i : TypeInfo} {zv : Value} {z xs : List PV} {ps : List (Nat × Nat × PV)}
    (hi : P.info? e = some i) (hz : i.zero = some zv) (hrz : RepL K z zv.cells.toList) (hzl : z.length = i.size)
    (hl : ps.length = parts.size) (hp : ∀ (j : Nat) (p : Nat × Nat × PV) (q : Nat × Operand), ps[j]? = some p → parts[j]? = some q → (p.1 = q.1 * i.size ∧ p.2.1 = i.size) ∧ Rep K p.2.2 (a.eval q.2))
    (he : evFill (rep n z) ps = some xs) : ∃ cs', Instr.fill (fun j => some (j * i.size, i.size)) (madeCells zv.cells (n * i.size)) (parts.map fun x => (x.1, a.eval x.2)).toList = some cs' ∧ RepL K xs cs'.toList := by
  have hm := hrz.made n n (Nat.le_refl _)
  rw [hzl, List.take_of_length_le (by simp [size_madeCells])] at hm
  obtain ⟨cs', hf, hr⟩ := fill_spec (K := K) (fun j => some (j * i.size, i.size)) ps (parts.toList.map fun q => (q.1, a.eval q.2)) (rep n z) xs (madeCells zv.cells (n * i.size)) hm (by simpa using hl) (fun j p v hp' hv => by
    rw [List.getElem?_map, Option.map_eq_some_iff] at hv
    obtain ⟨q, hq, rfl⟩ := hv
    obtain ⟨⟨h1, h2⟩, hrp⟩ := hp j p q hp' (by simpa using hq)
    exact ⟨by simp [h1, h2], hrp⟩) he
  exact ⟨cs', by rw [← hf]; simp, hr⟩

theorem ok_bsl {t e : TypeId} {n : Nat} {parts : Array (Nat × Operand)} {i : TypeInfo} {zv : Value} {z : List PV} {ps : List (Nat × Nat × PV)} {r : PV}
    (ho : o.op = .buildSlice t n parts) (ht : P.underlying t = some (.slice e)) (hi : P.info? e = some i) (hz : i.zero = some zv) (hrz : RepL K z zv.cells.toList) (hzl : z.length = i.size) (hsz : 0 < i.size) (hn : n * i.size ≤ 16777216)
    (hl : ps.length = parts.size) (hp : ∀ (j : Nat) (p : Nat × Nat × PV) (q : Nat × Operand), ps[j]? = some p → parts[j]? = some q → (p.1 = q.1 * i.size ∧ p.2.1 = i.size) ∧ Rep K p.2.2 (a.eval q.2))
    (hH : HRel K H) (he : evBsl n i.size z ps = some r) : OpOk P o a K H r H := by
  unfold evBsl at he
  rw [Option.bind_eq_some_iff] at he
  obtain ⟨xs, hxs, he⟩ := he
  split at he
  case isFalse => cases he
  rename_i hc
  simp only [Bool.and_eq_true] at hc
  simp only [Option.some.injEq] at he
  subst he
  obtain ⟨cs', hf, hr⟩ := bsl_fill (n := n) hi hz hrz hzl hl hp hxs
  have hzs : zv.cells.size = i.size := by have := hrz.length; simp at this; omega
  have hrun := run_buildSlice (P := P) (n := n) ht hi hz hzs hsz hn (parts.map fun x => (x.1, a.eval x.2)) K.w hf
  obtain ⟨hH', hE⟩ := hH.withZ (.cells cs' e)
  have hlen : xs.length = n * i.size := by rw [length_evFill _ _ _ hxs, length_rep, hzl]
  refine OpOk.of_run (K' := K.withZ (.cells cs' e)) (rv := .slice (some ⟨K.w.heap.size, 0, none⟩) n n) (by simp [execOp, ho, hrun, KW.withZ]) hE hH' ?_
  refine ⟨hsz, ?_, _, n, n, rfl, hlen, rfl, .inr ⟨K.w.heap.size, 0, rfl, .inl (.inr rfl), RepRow.new (KW.withZ_at K cs' e) (hr.mono hE.le) hc.2⟩⟩
  rw [if_neg (by simp)]
  exact RepL.clean_of _ _ hr hc.1

/-- A slice's literal that may be written. -/
def evBslm (e : TypeId) (n sz : Nat) (z : List PV) (ps : List (Nat × Nat × PV)) (H : Hp) : Option (PV × Hp) :=
  (evFill (rep n z) ps).bind fun xs => if xs.all PV.one && decide (0 < n) then some (.msl true H.length 0 0 n sz, H ++ [⟨e, 0, xs, none⟩]) else none
theorem ok_bslm {t e : TypeId} {n : Nat} {parts : Array (Nat × Operand)} {i : TypeInfo} {zv : Value} {z : List PV} {ps : List (Nat × Nat × PV)} {r : PV} {H' : Hp}
    (ho : o.op = .buildSlice t n parts) (ht : P.underlying t = some (.slice e)) (hi : P.info? e = some i) (hz : i.zero = some zv) (hrz : RepL K z zv.cells.toList) (hzl : z.length = i.size) (hsz : 0 < i.size) (hn : n * i.size ≤ 16777216)
    (hl : ps.length = parts.size) (hp : ∀ (j : Nat) (p : Nat × Nat × PV) (q : Nat × Operand), ps[j]? = some p → parts[j]? = some q → (p.1 = q.1 * i.size ∧ p.2.1 = i.size) ∧ Rep K p.2.2 (a.eval q.2))
    (hH : HRel K H) (he : evBslm e n i.size z ps H = some (r, H')) : OpOk P o a K H r H' := by
  unfold evBslm at he
  rw [Option.bind_eq_some_iff] at he
  obtain ⟨xs, hxs, he⟩ := he
  split at he
  case isFalse => cases he
  rename_i hc
  simp only [Bool.and_eq_true, decide_eq_true_eq] at hc
  simp only [Option.some.injEq, Prod.mk.injEq] at he
  obtain ⟨rfl, rfl⟩ := he
  obtain ⟨cs', hf, hr⟩ := bsl_fill (n := n) hi hz hrz hzl hl hp hxs
  have hzs : zv.cells.size = i.size := by have := hrz.length; simp at this; omega
  have hrun := run_buildSlice (P := P) (n := n) ht hi hz hzs hsz hn (parts.map fun x => (x.1, a.eval x.2)) K.w hf
  have hlen : xs.length = n * i.size := by rw [length_evFill _ _ _ hxs, length_rep, hzl]
  have hcl : xs.length = cs'.size := by simpa using hr.length
  obtain ⟨hH', hE⟩ := hH.withM cs' e xs (Nat.le_of_eq hcl) (by rw [hcl, List.take_of_length_le (by simp)]; exact hr) hc.1
  refine OpOk.of_run (K' := K.withM H cs' e) (rv := .slice (some ⟨K.w.heap.size, 0, none⟩) n n) (by simp [execOp, ho, hrun, KW.withM]) hE hH' ?_
  refine ⟨hsz, .inr ⟨_, _, n, muSet_same _ _ _ _, rfl, Nat.le_refl _, fun _ => ⟨by rw [← hcl, hlen, Nat.zero_add], ?_⟩⟩⟩
  have hle : n ≤ n * i.size := Nat.le_mul_of_pos_right _ hsz
  simp only [maxLen]
  omega

/-! ### make -/
def evMks (e : TypeId) (sz bytes : Nat) (z : List PV) (len cap : PV) (H : Hp) : Option (PV × Hp) :=
  match len, cap with
  | .int _ l, .int _ c => if 0 ≤ l ∧ l ≤ c ∧ (bytes : Int) * c ≤ 281474976710656 ∧ z.all PV.one = true then some (.msl true H.length 0 0 l.toNat sz, H ++ [⟨e, 0, rep l.toNat z, none⟩]) else none
  | _, _ => none
theorem ok_mks {t e : TypeId} {L C : Operand} {l c r : PV} {i : TypeInfo} {zv : Value} {z : List PV} {H' : Hp} (ho : o.op = .makeSlice t L C) (ht : P.underlying t = some (.slice e)) (hi : P.info? e = some i) (hz : i.zero = some zv) (hrz : RepL K z zv.cells.toList) (hzl : z.length = i.size)
    (hsz : 0 < i.size) (hby : 0 < i.bytes) (hH : HRel K H) (hL : Rep K l (a.eval L)) (hC : Rep K c (a.eval C)) (he : evMks e i.size i.bytes z l c H = some (r, H')) : OpOk P o a K H r H' := by
  cases l <;> simp only [evMks, reduceCtorEq] at he
  rename_i kl l
  cases c <;> simp only [reduceCtorEq] at he
  rename_i kc c
  split at he
  case isFalse => cases he
  rename_i hc
  obtain ⟨h0, h1, h2, h3⟩ := hc
  simp only [Option.some.injEq, Prod.mk.injEq] at he
  obtain ⟨rfl, rfl⟩ := he
  have hL' : a.eval L = .int kl l := hL
  have hC' : a.eval C = .int kc c := hC
  have hcb : c ≤ 281474976710656 := by
    have : (1 : Int) * c ≤ (i.bytes : Int) * c := Int.mul_le_mul_of_nonneg_right (by omega) (by omega)
    omega
  have hrun := run_make (P := P) K.w t e i zv ht hi hz kl kc l c h0 h1 h2 (by omega)
  have hm := hrz.made l.toNat c.toNat (by omega)
  have hsize : (madeCells zv.cells (c.toNat * i.size)).size = c.toNat * i.size := size_madeCells _ _
  have hle : l.toNat * i.size ≤ c.toNat * i.size := Nat.mul_le_mul_right _ (by omega)
  obtain ⟨hH', hE⟩ := hH.withM (madeCells zv.cells (c.toNat * i.size)) e (rep l.toNat z) (by rw [length_rep, hsize, hzl]; exact hle) (by rw [length_rep]; rw [hzl] at hm ⊢; exact hm) (all_rep _ _ _ h3)
  refine OpOk.of_run (K' := K.withM H (madeCells zv.cells (c.toNat * i.size)) e) (rv := .slice (some ⟨K.w.heap.size, 0, none⟩) l.toNat c.toNat) (by simp [execOp, ho, hL', hC', hrun, KW.withM]) hE hH' ?_
  refine ⟨hsz, .inr ⟨_, _, c.toNat, muSet_same _ _ _ _, rfl, by omega, fun _ => ⟨by rw [Nat.zero_add]; exact hsize, ?_⟩⟩⟩
  simp only [maxLen]
  omega

/-! ### Slicing -/
def optIx (d : Nat) (x : Option PV) : Option Nat := match x with | none => some d | some (.int _ i) => if 0 ≤ i then some i.toNat else none | some _ => none
def OptR (K : KW) (x : Option PV) (v : Option Value) : Prop := match x, v with | none, none => True | some x, some v => Rep K x v | _, _ => False

theorem run_bound {x : PV} {v : Value} {n y : Nat} {code : BoundsCode} (hr : Rep K x v) (hx : optIx 0 (some x) = some n) (hn : n ≤ y) (w : World) : (Instr.sliceBound v y code).run P w = .ok n w := by
  cases x <;> simp only [optIx, reduceCtorEq] at hx
  rename_i k m
  split at hx
  case isFalse => cases hx
  rename_i h0
  simp only [Option.some.injEq] at hx
  have hv : v = .int k m := hr
  have h2 : m ≤ (y : Int) := by omega
  simp [Instr.sliceBound, hv, asIntOf, h0, h2, hx]

theorem optIx_some {d d' : Nat} {x : PV} : optIx d (some x) = optIx d' (some x) := by cases x <;> rfl

theorem run_bounds {lo hi mx : Option PV} {vl vh vm : Option Value} {len cap l h m : Nat} (hl : OptR K lo vl) (hh : OptR K hi vh) (hm : OptR K mx vm) (el : optIx 0 lo = some l) (eh : optIx len hi = some h) (em : optIx cap mx = some m)
    (h1 : l ≤ h) (h2 : h ≤ m) (h3 : m ≤ cap) (hmx : mx.isSome = true → hi.isSome = true) (b : Bool) (w : World) : (Instr.sliceBounds b len cap vl vh vm).run P w = .ok (l, h, m) w := by
  unfold Instr.sliceBounds
  cases mx with
  | none =>
    cases vm with
    | some _ => exact hm.elim
    | none =>
      simp only [optIx, Option.some.injEq] at em
      subst em
      cases hi with
      | none =>
        cases vh with
        | some _ => exact hh.elim
        | none =>
          simp only [optIx, Option.some.injEq] at eh
          subst eh
          cases lo with
          | none =>
            cases vl with
            | some _ => exact hl.elim
            | none => simp only [optIx, Option.some.injEq] at el; subst el; simp
          | some lo =>
            cases vl with
            | none => exact hl.elim
            | some vl => simp [run_bound hl el h1]
      | some hi =>
        cases vh with
        | none => exact hh.elim
        | some vh =>
          rw [optIx_some (d' := 0)] at eh
          cases lo with
          | none =>
            cases vl with
            | some _ => exact hl.elim
            | none => simp only [optIx, Option.some.injEq] at el; subst el; simp [run_bound hh eh h2]
          | some lo =>
            cases vl with
            | none => exact hl.elim
            | some vl => simp [run_bound hh eh h2, run_bound hl el h1]
  | some mx =>
    cases vm with
    | none => exact hm.elim
    | some vm =>
      rw [optIx_some (d' := 0)] at em
      cases hi with
      | none => simp at hmx
      | some hi =>
        cases vh with
        | none => exact hh.elim
        | some vh =>
          rw [optIx_some (d' := 0)] at eh
          cases lo with
          | none =>
            cases vl with
            | some _ => exact hl.elim
            | none => simp only [optIx, Option.some.injEq] at el; subst el; simp [run_bound hm em h3, run_bound hh eh h2]
          | some lo =>
            cases vl with
            | none => exact hl.elim
            | some vl => simp [run_bound hm em h3, run_bound hh eh h2, run_bound hl el h1]

/-- What is known of a slice that is cut out of another one, up to its end or not. -/
def nlCut (nl : Nl) (top : Bool) : Nl := match nl with | .nil => .nil | .ex => if top then .ex else .any | n => n
def nlCut3 (nl : Nl) (top : Bool) : Nl := match nl with | .bor => .bor | _ => if top then .ex else .any
theorem nlCut_bor (nl : Nl) (top : Bool) : (nlCut nl top = .bor) = (nl = .bor) := by cases nl <;> cases top <;> simp [nlCut]
theorem nlCut3_bor (nl : Nl) (top : Bool) : (nlCut3 nl top = .bor) = (nl = .bor) := by cases nl <;> cases top <;> simp [nlCut3]
theorem nlCut_ok {nl : Nl} {ao : Option Addr} {n c l h k : Nat} (hn : nlOk nl ao n c) (h1 : l ≤ h) (h2 : h ≤ n) : nlOk (nlCut nl (decide (h = n))) (if c = l then ao else ao.map (·.add k)) (h - l) (c - l) := by
  by_cases hq : h = n
  · subst hq
    cases nl <;> simp only [nlOk, nlCut, decide_true, if_true] at hn ⊢
    · obtain ⟨rfl, rfl, rfl⟩ := hn
      simp
    · omega
    · omega
    · omega
  · cases nl <;> simp only [nlOk, nlCut, hq, decide_false, Bool.false_eq_true, if_false] at hn ⊢
    · omega
    · omega
    · omega
    · omega
theorem nlCut3_ok {nl : Nl} {ao ao' : Option Addr} {l h m : Nat} (h1 : l ≤ h) (h2 : h ≤ m) : nlOk (nlCut3 nl (decide (h = m))) ao' (h - l) (m - l) := by
  by_cases hq : h = m
  · subst hq
    cases nl <;> simp [nlOk, nlCut3]
  · cases nl <;> simp only [nlOk, nlCut3, hq, decide_false, Bool.false_eq_true, if_false] <;> omega

def evSlc (sz : Nat) (x : PV) (lo hi mx : Option PV) : Option PV :=
  match x with
  | .list nl s xs => if s = sz then
      (optIx 0 lo).bind fun l => (optIx (xs.length / sz) hi).bind fun h =>
        match mx with
        | none => if l ≤ h ∧ h ≤ xs.length / sz then some (.list (nlCut nl (decide (h = xs.length / sz))) sz ((xs.drop (l * sz)).take ((h - l) * sz))) else none
        | some mx => (optIx 0 (some mx)).bind fun m => if l ≤ h ∧ h ≤ m ∧ m ≤ xs.length / sz ∧ hi.isSome then
            (if l = m then some (.list .ex sz []) else some (.list (nlCut3 nl (decide (h = m))) sz ((xs.drop (l * sz)).take ((h - l) * sz)))) else none
      else none
  | .msl ap b gen off len s => if s = sz then
      (optIx 0 lo).bind fun l => (optIx len hi).bind fun h =>
        match mx with
        | none => if l ≤ h ∧ h ≤ len then some (.msl ap b gen (off + l * sz) (h - l) sz) else none
        | some mx => (optIx 0 (some mx)).bind fun m => if l = m ∧ h = m ∧ m ≤ len ∧ hi.isSome then some (.list .ex sz []) else none
      else none
  | _ => none

theorem run_sliceAt_pv {t e : TypeId} (ht : P.underlying t = some (.slice e)) (het : hasT P e = true) {v : Value} {ao : Option Addr} {n c : Nat} (hv : v = .slice ao n c) {vl vh vm : Option Value} {l h m : Nat} {w : World}
    (hb : (Instr.sliceBounds true n c vl vh vm).run P w = .ok (l, h, m) w) : (Instr.sliceAt t v vl vh vm).run P w = .ok (.slice (if m = l then ao else ao.map (·.add (l * P.cellsOf e))) (h - l) (m - l)) w := by
  subst hv
  simp only [Instr.sliceAt, Sem.run_bind, run_underlying ht, Result.andThen_ok, Instr.slice, hb, run_sizeOf het, Sem.run_pure]

theorem ok_slc {t e : TypeId} {X : Operand} {Lo Hi Mx : Option Operand} {x r : PV} {lo hi mx : Option PV} (ho : o.op = .slice t X Lo Hi Mx) (ht : P.underlying t = some (.slice e)) (het : hasT P e = true)
    (hH : HRel K H) (hx : Rep K x (a.eval X)) (hlo : OptR K lo (Lo.map a.eval)) (hhi : OptR K hi (Hi.map a.eval)) (hmx : OptR K mx (Mx.map a.eval)) (he : evSlc (P.cellsOf e) x lo hi mx = some r) : OpOk P o a K H r H := by
  have fin : ∀ {ao : Option Addr} {n c l h m : Nat}, a.eval X = .slice ao n c → (Instr.sliceBounds true n c (Lo.map a.eval) (Hi.map a.eval) (Mx.map a.eval)).run P K.w = .ok (l, h, m) K.w →
      ∀ {r : PV}, Rep K r (.slice (if m = l then ao else ao.map (·.add (l * P.cellsOf e))) (h - l) (m - l)) → OpOk P o a K H r H := by
    intro ao n c l h m hv hb r hr
    have hrun := run_sliceAt_pv ht het hv hb
    exact OpOk.of_same (by simp [execOp, ho, hrun]) hH hr
  cases x <;> simp only [evSlc, reduceCtorEq] at he
  case list nl s xs =>
    split at he
    case isFalse => cases he
    rename_i hs
    subst hs
    rw [Option.bind_eq_some_iff] at he
    obtain ⟨l, hl, he⟩ := he
    rw [Option.bind_eq_some_iff] at he
    obtain ⟨h, hh, he⟩ := he
    obtain ⟨hp, hcl, aa, n, c, hv, hlen, hn, hr⟩ := hx
    have hdiv : xs.length / P.cellsOf e = n := by rw [hlen]; exact Nat.mul_div_cancel _ hp
    rw [hdiv] at he hh
    have row : ∀ (l h m : Nat), l ≤ h → h ≤ n → h ≤ m → (xs.drop (l * P.cellsOf e)).take ((h - l) * P.cellsOf e) = [] ∨ ∃ g oo, (if m = l then aa else aa.map (·.add (l * P.cellsOf e))) = some ⟨g, oo, none⟩ ∧ K.S (nl = .bor) g ∧ RepRow K ((xs.drop (l * P.cellsOf e)).take ((h - l) * P.cellsOf e)) g oo := by
      intro l h m h1 h2 h3
      by_cases e0 : h = l
      · left; rw [e0]; simp
      · rcases hr with rfl | ⟨g, oo, rfl, hs, hrow⟩
        · left; simp
        · right
          refine ⟨g, oo + l * P.cellsOf e, ?_, hs, (hrow.drop _).take _⟩
          rw [if_neg (by omega)]
          simp [add_plain]
    have len' : ∀ (l h : Nat), l ≤ h → h ≤ n → ((xs.drop (l * P.cellsOf e)).take ((h - l) * P.cellsOf e)).length = (h - l) * P.cellsOf e := by
      intro l h h1 h2
      rw [List.length_take, List.length_drop, hlen, ← Nat.sub_mul]
      exact Nat.min_eq_left (Nat.mul_le_mul_right _ (by omega))
    cases mx with
    | none =>
      simp only at he
      split at he
      case isFalse => cases he
      rename_i hc
      simp only [Option.some.injEq] at he
      subst he
      have hnc : n ≤ c := by cases nl <;> simp only [nlOk] at hn <;> omega
      refine fin hv (run_bounds (m := c) hlo hhi hmx hl hh (by rfl) hc.1 (by omega) (Nat.le_refl _) (by simp) true K.w) ⟨hp, ?_, _, _, _, rfl, len' l h hc.1 hc.2, ?_, ?_⟩
      · simp only [nlCut_bor]
        split at hcl
        · rw [if_pos (by assumption)]; exact pureL_take (pureL_drop hcl _) _
        · rw [if_neg (by assumption)]; exact cleanL_take (cleanL_drop hcl _) _
      · exact nlCut_ok hn hc.1 hc.2
      · simp only [nlCut_bor]
        exact row l h c hc.1 hc.2 (by omega)
    | some mx =>
      simp only at he
      rw [Option.bind_eq_some_iff] at he
      obtain ⟨m, hm, he⟩ := he
      split at he
      case isFalse => cases he
      rename_i hc
      have hnc : n ≤ c := by cases nl <;> simp only [nlOk] at hn <;> omega
      have hb := run_bounds (P := P) (cap := c) hlo hhi hmx hl hh (by rw [optIx_some (d' := 0)]; exact hm) hc.1 hc.2.1 (by omega) (fun _ => hc.2.2.2) true K.w
      split at he
      · rename_i hlm
        simp only [Option.some.injEq] at he
        subst he
        refine fin hv hb ⟨hp, by simp [PV.cleanL], _, _, _, rfl, ?_, ?_, .inl rfl⟩
        · have : h = l := by omega
          simp [this]
        · simp only [nlOk]; omega
      · rename_i hlm
        simp only [Option.some.injEq] at he
        subst he
        refine fin hv hb ⟨hp, ?_, _, _, _, rfl, len' l h hc.1 (by omega), ?_, ?_⟩
        · simp only [nlCut3_bor]
          split at hcl
          · rw [if_pos (by assumption)]; exact pureL_take (pureL_drop hcl _) _
          · rw [if_neg (by assumption)]; exact cleanL_take (cleanL_drop hcl _) _
        · exact nlCut3_ok (ao := aa) hc.1 hc.2.1
        · simp only [nlCut3_bor]
          exact row l h m hc.1 (by omega) hc.2.1
  case msl ap b gen off len s =>
    split at he
    case isFalse => cases he
    rename_i hs
    subst hs
    rw [Option.bind_eq_some_iff] at he
    obtain ⟨l, hl, he⟩ := he
    rw [Option.bind_eq_some_iff] at he
    obtain ⟨h, hh, he⟩ := he
    obtain ⟨hp, hx⟩ := hx
    have hlc : ∀ {ao : Option Addr} {n c : Nat}, a.eval X = .slice ao n c → n = len := by
      intro ao n c hv
      rcases hx with ⟨rfl, ⟨_, hv'⟩ | ⟨_, aa, c', hv'⟩⟩ | ⟨g, n', c', _, hv', _⟩ <;> rw [hv] at hv' <;> simp at hv' <;> omega
    cases mx with
    | none =>
      simp only at he
      split at he
      case isFalse => cases he
      rename_i hc
      simp only [Option.some.injEq] at he
      subst he
      rcases hx with ⟨rfl, ⟨rfl, hv⟩ | ⟨ho0, aa, c, hv⟩⟩ | ⟨g, nn, c, hm, hv, hlc', hcap⟩
      · obtain rfl : l = 0 := by omega
        obtain rfl : h = 0 := by omega
        refine fin hv (run_bounds (m := 0) hlo hhi hmx hl hh (by rfl) (Nat.le_refl _) (Nat.le_refl _) (Nat.le_refl _) (by simp) true K.w) ⟨hp, .inl ⟨rfl, .inl ⟨by simp, by simp⟩⟩⟩
      · obtain rfl : l = 0 := by omega
        obtain rfl : h = 0 := by omega
        refine fin hv (run_bounds (m := c) hlo hhi hmx hl hh (by rfl) (Nat.le_refl _) (Nat.zero_le _) (Nat.le_refl _) (by simp) true K.w) ⟨hp, .inl ⟨rfl, .inr ⟨by simpa using ho0, _, _, rfl⟩⟩⟩
      · refine fin hv (run_bounds (m := c) hlo hhi hmx hl hh (by rfl) hc.1 (by omega) (Nat.le_refl _) (by simp) true K.w) ⟨hp, ?_⟩
        by_cases hcl : c = l
        · rw [if_pos hcl]
          by_cases hl0 : l = 0
          · subst hl0
            refine .inr ⟨g, nn, c - 0, hm, ?_, by omega, fun h1 => ?_⟩
            · simp
            · have := hcap h1
              simpa using this
          · refine .inl ⟨by omega, .inr ⟨?_, some ⟨g, off, none⟩, c - l, ?_⟩⟩
            · have : 0 < l * P.cellsOf e := Nat.mul_pos (by omega) hp
              omega
            · rw [show h - l = 0 by omega]
        · rw [if_neg hcl]
          refine .inr ⟨g, nn, c - l, hm, by simp [add_plain], by omega, fun h1 => ?_⟩
          obtain ⟨q1, q2⟩ := hcap h1
          refine ⟨?_, by omega⟩
          rw [q1, Nat.add_assoc, ← Nat.add_mul, show l + (c - l) = c by omega]
    | some mx =>
      simp only at he
      rw [Option.bind_eq_some_iff] at he
      obtain ⟨m, hm, he⟩ := he
      split at he
      case isFalse => cases he
      rename_i hc
      obtain ⟨rfl, rfl, hml, his⟩ := hc
      simp only [Option.some.injEq] at he
      subst he
      have hv : ∃ ao c, a.eval X = .slice ao len c ∧ len ≤ c := by
        rcases hx with ⟨rfl, ⟨_, hv'⟩ | ⟨_, aa, c', hv'⟩⟩ | ⟨g, n', c', _, hv', hq, _⟩
        · exact ⟨_, _, hv', Nat.zero_le _⟩
        · exact ⟨_, _, hv', Nat.zero_le _⟩
        · exact ⟨_, _, hv', hq⟩
      obtain ⟨ao, c, hv, hlc⟩ := hv
      refine fin hv (run_bounds (cap := c) hlo hhi hmx hl hh (by rw [optIx_some (d' := 0)]; exact hm) (Nat.le_refl _) (Nat.le_refl _) (by omega) (fun _ => his) true K.w) ⟨hp, by simp [PV.cleanL], _, _, _, rfl, by simp, by simp [nlOk], .inl rfl⟩

/-- A slice of an array behind a pointer. -/
def evSlcA (n sz : Nat) (x : PV) (lo hi : Option PV) : Option PV :=
  (optIx 0 lo).bind fun l => (optIx n hi).bind fun h => if l ≤ h ∧ h ≤ n ∧ 0 < sz then
    match x with
    | .pptr bor xs off => if off + n * sz ≤ xs.length then some (.list (if bor then .bor else .any) sz ((xs.drop (off + l * sz)).take ((h - l) * sz))) else none
    | .mptr b gen off => some (.msl false b gen (off + l * sz) (h - l) sz)
    | _ => none
  else none
theorem ok_slcA {t e : TypeId} {n : Nat} {X : Operand} {Lo Hi : Option Operand} {x r : PV} {lo hi : Option PV} (ho : o.op = .slice t X Lo Hi none) (ht : P.underlying t = some (.array n e)) (het : hasT P e = true)
    (hH : HRel K H) (hx : Rep K x (a.eval X)) (hlo : OptR K lo (Lo.map a.eval)) (hhi : OptR K hi (Hi.map a.eval)) (he : evSlcA n (P.cellsOf e) x lo hi = some r) : OpOk P o a K H r H := by
  unfold evSlcA at he
  rw [Option.bind_eq_some_iff] at he
  obtain ⟨l, hl, he⟩ := he
  rw [Option.bind_eq_some_iff] at he
  obtain ⟨h, hh, he⟩ := he
  split at he
  case isFalse => cases he
  rename_i hc
  obtain ⟨h1, h2, hp⟩ := hc
  have hb := run_bounds (P := P) (K := K) (mx := none) (vm := none) hlo hhi trivial hl hh (by rfl) h1 h2 (Nat.le_refl _) (by simp) false K.w
  have fin : ∀ (g oo : Nat), a.eval X = .pointer (some ⟨g, oo, none⟩) → ∀ {r : PV}, Rep K r (.slice (some (if n = l then ⟨g, oo, none⟩ else ⟨g, oo + l * P.cellsOf e, none⟩)) (h - l) (n - l)) → OpOk P o a K H r H := by
    intro g oo hv r hr
    refine OpOk.of_same ?_ hH hr
    simp only [execOp, ho, Option.map_none, hv, Instr.sliceAt, Instr.sureAddr, Sem.run_bind, run_underlying ht, Result.andThen_ok, Sem.run_pure, hb, run_sizeOf het, add_plain]
  split at he
  · rename_i bor xs off
    split at he
    case isFalse => cases he
    rename_i hle
    simp only [Option.some.injEq] at he
    subst he
    obtain ⟨hcl, _, g, oo, hv, hs, hrow⟩ := hx
    have hle2 : (h - l) * P.cellsOf e ≤ (xs.drop (off + l * P.cellsOf e)).length := by
      have e1 : (h - l) * P.cellsOf e + l * P.cellsOf e ≤ n * P.cellsOf e := by rw [← Nat.add_mul]; exact Nat.mul_le_mul_right _ (by omega)
      rw [List.length_drop]
      omega
    refine fin g (oo + off) hv ⟨hp, ?_, _, _, _, rfl, by rw [List.length_take, Nat.min_eq_left hle2], ?_, ?_⟩
    · cases bor
      · simp only [Bool.false_eq_true, if_false, reduceCtorEq] at hcl ⊢
        exact cleanL_take (cleanL_drop hcl _) _
      · simp only [if_true] at hcl ⊢
        exact pureL_take (pureL_drop hcl _) _
    · cases bor <;> simp [nlOk] <;> omega
    · by_cases e0 : h = l
      · left; rw [e0]; simp
      · right
        rw [if_neg (by omega)]
        refine ⟨g, oo + off + l * P.cellsOf e, rfl, ?_, ?_⟩
        · cases bor <;> simpa using hs
        · have := (hrow.drop (off + l * P.cellsOf e)).take ((h - l) * P.cellsOf e)
          rwa [← Nat.add_assoc] at this
  · rename_i b gen off
    simp only [Option.some.injEq] at he
    subst he
    obtain ⟨g, nn, hm, hv⟩ := hx
    refine fin g off hv ⟨hp, ?_⟩
    by_cases e0 : n = l
    · rw [if_pos e0]
      by_cases l0 : l = 0
      · subst l0
        exact .inr ⟨g, nn, n - 0, hm, by simp, by omega, by simp⟩
      · refine .inl ⟨by omega, .inr ⟨?_, some ⟨g, off, none⟩, n - l, ?_⟩⟩
        · have : 0 < l * P.cellsOf e := Nat.mul_pos (by omega) hp
          omega
        · rw [show h - l = 0 by omega]
    · rw [if_neg e0]
      exact .inr ⟨g, nn, n - l, hm, rfl, by omega, by simp⟩
  · cases he
end
end Go.Proofs.Ytmbknidfkddpfaa.PM
