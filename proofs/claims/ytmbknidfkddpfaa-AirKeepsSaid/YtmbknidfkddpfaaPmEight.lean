/- The pure machine, part 8: each operation does what the model's does. -/
import Derived.Test.YtmbknidfkddpfaaPmSeven
set_option linter.unusedVariables false
set_option linter.unusedSimpArgs false
namespace Go.Proofs.Ytmbknidfkddpfaa.PM
open Go.RowKit (Below)

/-- A function with a body. -/
def FnIn (P : Program) (f : FuncId) : Prop := ∃ fn, P.funcs[f]? = some fn ∧ (fn.name == "runtime.NumGoroutine") = false ∧ fn.body.isNone = false
def noMu : Nat → Nat → Option (Nat × Nat) := fun _ _ => none

/-- A call by value. -/
def PureOk (P : Program) (f : FuncId) (args : List PV) (r : PV) : Prop :=
  FnIn P f ∧ ∀ (w : World) (Z Y : Nat → Prop) (vs : Array Value), (∀ g, Z g ∨ Y g → g < w.heap.size) → RepL ⟨w, Z, Y, noMu⟩ args vs.toList →
    Calls P f vs w fun e w' => ∃ v, e = .returned v ∧ Below w.heap.size w w' ∧ Rep ⟨w', fun g => Z g ∨ (w.heap.size ≤ g ∧ g < w'.heap.size), Y, noMu⟩ r v
/-- A call with the caller's small heap. -/
def OpenOk (P : Program) (f : FuncId) (args : List PV) (H : Hp) (r : PV) (H' : Hp) : Prop :=
  FnIn P f ∧ ∀ (K : KW) (vs : Array Value), HRel K H → RepL K args vs.toList →
    Calls P f vs K.w fun e w' => ∃ rv K', e = .returned rv ∧ K'.w = w' ∧ Ext K H K' H' ∧ HRel K' H' ∧ Rep K' r rv
/-- Freezing: the values, by value. -/
def FzOk (fz : Hp → List PV → Option (List PV)) : Prop :=
  ∀ (K : KW) (H : Hp) (xs ys : List PV) (l : List Value), HRel K H → RepL K xs l → fz H xs = some ys → RepL ⟨K.w, K.Z, fun g => g < K.w.heap.size, noMu⟩ ys l
def MethOk (P : Program) (meth : Nat → String → Option Nat) : Prop :=
  ∀ t name f, meth t name = some f → ∀ v w, (method (P.types.size + Made.depth) t v name).run P w = .ok (f, v) w ∧ (nilAhead (P.types.size + Made.depth) t v name).run P w = .ok (some false) w

section
variable {P : Program} {K : KW} {H : Hp}

theorem run_callFunc_in {f : FuncId} (h : FnIn P f) (args : Array Value) (w : World) : (callFunc f args).run P w = .ok (.enter f args) w := by
  obtain ⟨fn, hf, hn, hb⟩ := h
  simp only [callFunc, Sem.run_bind, run_program, Result.andThen_ok, hf]
  rw [if_neg (by rw [hn]; simp), if_neg (by rw [hb]; simp)]
  rfl

theorem HRel.below {w' : World} (hH : HRel K H) (hb : Below K.w.heap.size K.w w') : HRel ⟨w', fun g => K.Z g ∨ (K.w.heap.size ≤ g ∧ g < w'.heap.size), K.Y, K.μ⟩ H ∧ Ext K H ⟨w', fun g => K.Z g ∨ (K.w.heap.size ≤ g ∧ g < w'.heap.size), K.Y, K.μ⟩ H := by
  have hle : K.Le ⟨w', fun g => K.Z g ∨ (K.w.heap.size ≤ g ∧ g < w'.heap.size), K.Y, K.μ⟩ := ⟨hb.os, hb.tape, hb.output, hb.size, fun g hg => hb.block g (hH.lt g hg), fun g hg => .inl hg, fun g hg => hg, fun _ _ _ h => h, MapsKeep.of_same fun g _ _ hg => hb.block g (Array.getElem?_eq_some_iff.1 hg).1⟩
  refine ⟨⟨?_, hH.inj, hH.fresh, ?_⟩, hle, fun g hg _ => hb.block g hg, fun g hg => .inl hg, fun g hg => hg.imp id (fun q => q.1), fun g hg => hg⟩
  · intro b B hB
    rcases hH.blk b B hB with h | ⟨m, g, es, cl, hx, hp, hg0, hm, hh, hz, hy, hmp⟩ | ⟨g, cur, hp, hm, hh, hz, hy, hl, hr, h1⟩
    · exact .inl h
    · have hg : g < K.w.heap.size := (Array.getElem?_eq_some_iff.1 hh).1
      refine .inr <| .inl ⟨m, g, es, cl, hx, hp, hg0, hm, (hb.block g hg).trans hh, ?_, hy, hmp.mono hle⟩
      rintro (q | ⟨q, _⟩)
      · exact hz q
      · omega
    · have hg : g < K.w.heap.size := (Array.getElem?_eq_some_iff.1 hh).1
      refine .inr <| .inr ⟨g, cur, hp, hm, (hb.block g hg).trans hh, ?_, hy, hl, hr.mono hle, h1⟩
      rintro (q | ⟨q, _⟩)
      · exact hz q
      · omega
  · rintro g ((q | q) | q)
    · exact Nat.lt_of_lt_of_le (hH.lt g (.inl q)) hb.size
    · exact q.2
    · exact Nat.lt_of_lt_of_le (hH.lt g (.inr q)) hb.size

theorem OpOk.of_pure {o : Oper} {a : Act} {f : FuncId} {vs : Array Value} {args : List PV} {r : PV} (hH : HRel K H) (hrun : (execOp a.eval o).run P K.w = .ok (.enter f vs) K.w)
    (hp : PureOk P f args r) (hcB : r.cleanB = true) (ha : RepL ⟨K.w, K.Z, fun g => g < K.w.heap.size, noMu⟩ args vs.toList) : OpOk P o a K H r H := by
  intro ro Kc Q h
  refine ⟨fun _ _ => trivial, ?_⟩
  rw [semAt_ok hrun (by intro d q; cases q), hrun, Oper.uponIn_enter]
  refine ⟨fun q => (by cases q), callsIn_fc ((hp.2 K.w K.Z (fun g => g < K.w.heap.size) vs (fun g hg => hg.elim (fun q => hH.lt g (.inl q)) id) ha).mono ?_)⟩
  rintro e w' ⟨v, rfl, hb, hr⟩
  have hcl := Rep.clean_of r v hr hcB
  obtain ⟨hH', hE⟩ := hH.below hb
  exact h _ v hE hH' (Rep.move (K := ⟨w', fun g => K.Z g ∨ (K.w.heap.size ≤ g ∧ g < w'.heap.size), fun g => g < K.w.heap.size, noMu⟩) (K' := ⟨w', fun g => K.Z g ∨ (K.w.heap.size ≤ g ∧ g < w'.heap.size), K.Y, K.μ⟩) (A := False) (B := False) (fun g hg => ⟨hg, rfl⟩) (fun q => q.elim) (fun q => q.elim) (fun q => q.elim) r v (.inl hcl) (.inl (PV.clean_pure r hcl)) hr)
theorem OpOk.of_brw {o : Oper} {a : Act} {f : FuncId} {vs : Array Value} {args : List PV} {r : PV} (hH : HRel K H) (hrun : (execOp a.eval o).run P K.w = .ok (.enter f vs) K.w)
    (hp : PureOk P f args r) (ha : RepL ⟨K.w, K.Z, K.Y, noMu⟩ args vs.toList) : OpOk P o a K H r H := by
  intro ro Kc Q h
  refine ⟨fun _ _ => trivial, ?_⟩
  rw [semAt_ok hrun (by intro d q; cases q), hrun, Oper.uponIn_enter]
  refine ⟨fun q => (by cases q), callsIn_fc ((hp.2 K.w K.Z K.Y vs hH.lt ha).mono ?_)⟩
  rintro e w' ⟨v, rfl, hb, hr⟩
  obtain ⟨hH', hE⟩ := hH.below hb
  exact h _ v hE hH' (Rep.move (K := ⟨w', fun g => K.Z g ∨ (K.w.heap.size ≤ g ∧ g < w'.heap.size), K.Y, noMu⟩) (K' := ⟨w', fun g => K.Z g ∨ (K.w.heap.size ≤ g ∧ g < w'.heap.size), K.Y, K.μ⟩) (A := True) (B := True) (fun g hg => ⟨hg, rfl⟩) (fun _ g hg => ⟨.inr hg, rfl⟩) (fun _ b n p hp => by cases hp) (fun _ => MapsKeep.refl _) r v (.inr trivial) (.inr trivial) hr)
/-- A call by value, either way. -/
theorem OpOk.of_cp {cp : Nat → List PV → Option PV} {fz : Hp → List PV → Option (List PV)} (hcp : ∀ f args r, cp f args = some r → PureOk P f args r) (hfz : FzOk fz) {o : Oper} {a : Act} {f : FuncId} {l : List Value} {args : List PV} {r : PV} (hH : HRel K H)
    (ha : RepL K args l) (he : evCp cp fz H f args = some r) (hrun : FnIn P f → (execOp a.eval o).run P K.w = .ok (.enter f l.toArray) K.w) : OpOk P o a K H r H := by
  unfold evCp at he
  split at he
  · rename_i hpu
    have hp := hcp f args r he
    refine OpOk.of_brw hH (hrun hp.1) hp ?_
    have := RepL.move (K := K) (K' := ⟨K.w, K.Z, K.Y, noMu⟩) (A := True) (B := False) (fun g hg => ⟨hg, rfl⟩) (fun _ g hg => ⟨.inr hg, rfl⟩) (fun q => q.elim) (fun q => q.elim) args l (.inr trivial) (.inl (RepL.pure_of args l ha hpu)) ha
    simpa using this
  · rw [Option.bind_eq_some_iff] at he
    obtain ⟨ys, hys, he⟩ := he
    rw [Option.bind_eq_some_iff] at he
    obtain ⟨r', hr', he⟩ := he
    split at he
    case isFalse => cases he
    rename_i hcl
    simp only [Option.some.injEq] at he
    subst he
    have hp := hcp f ys r' hr'
    exact OpOk.of_pure hH (hrun hp.1) hp hcl (by simpa using hfz K H _ ys _ hH ha hys)
theorem OpOk.of_open {o : Oper} {a : Act} {f : FuncId} {vs : Array Value} {args : List PV} {r : PV} {H' : Hp} (hH : HRel K H) (hrun : (execOp a.eval o).run P K.w = .ok (.enter f vs) K.w)
    (hp : OpenOk P f args H r H') (ha : RepL K args vs.toList) : OpOk P o a K H r H' := by
  intro ro Kc Q h
  refine ⟨fun _ _ => trivial, ?_⟩
  rw [semAt_ok hrun (by intro d q; cases q), hrun, Oper.uponIn_enter]
  refine ⟨fun q => (by cases q), callsIn_fc ((hp.2 K vs hH ha).mono ?_)⟩
  rintro e w' ⟨rv, K', rfl, rfl, hE, hH', hr⟩
  exact h K' rv hE hH' hr

theorem run_call_func {o : Oper} {a : Act} {c : Call} {f : FuncId} {fs cs : Array Value} {F : Operand} (ho : o.op = .call c) (hc : c.callee = .value F) (hF : a.eval F = .func (.func f) fs cs) (hf : FnIn P f) (w : World) :
    (execOp a.eval o).run P w = .ok (.enter f (fs ++ c.args.map a.eval ++ cs)) w := by
  simp only [execOp, ho, resolve, hc, hF, Deferred.ofValue, Sem.run_bind, Sem.run_pure, Result.andThen_ok, invoke, run_callFunc_in hf]
theorem run_call_inv {o : Oper} {a : Act} {c : Call} {f : FuncId} {t : TypeId} {v : Value} {R : Operand} {name : String} (ho : o.op = .call c) (hc : c.callee = .invoke R name) (hR : a.eval R = .iface t v)
    (hm : ∀ v w, (method (P.types.size + Made.depth) t v name).run P w = .ok (f, v) w) (hf : FnIn P f) (w : World) : (execOp a.eval o).run P w = .ok (.enter f (#[v] ++ c.args.map a.eval)) w := by
  have hx : (#[Value.iface t v] ++ c.args.map a.eval).extract 1 (#[Value.iface t v] ++ c.args.map a.eval).size = c.args.map a.eval := by
    apply Array.ext'
    simp [Array.toList_extract, List.extract, List.take_of_length_le]
  have h0 : (#[Value.iface t v] ++ c.args.map a.eval)[0]? = some (.iface t v) := by rw [Array.getElem?_append_left (by simp)]; rfl
  simp only [execOp, ho, resolve, hc, hR, Sem.run_bind, Sem.run_pure, Result.andThen_ok, invoke, h0, hx, callMethod, run_program, hm, run_callFunc_in hf]

theorem cloArgs_rep {x : PV} {v : Value} {xs : List PV} {l : List Value} {f : Nat} {args : List PV} (hx : Rep K x v) (hl : RepL K xs l) (he : cloArgs x xs = some (f, args)) :
    ∃ fs cs, v = .func (.func f) fs cs ∧ RepL K args (fs.toList ++ l ++ cs.toList) := by
  unfold cloArgs at he
  split at he
  · simp only [Option.some.injEq, Prod.mk.injEq] at he
    obtain ⟨rfl, rfl⟩ := he
    obtain ⟨fs, cs, rfl, hf, hc⟩ := hx
    exact ⟨fs, cs, rfl, (hf.append hl).append hc⟩
  · cases he

variable {cp : Nat → List PV → Option PV} {co : Nat → List PV → Hp → Option (PV × Hp)} {fz : Hp → List PV → Option (List PV)} {meth : Nat → String → Option Nat}
variable {o : Oper} {a : Act} {N : Nat} {env : Env}

theorem hasT_info {t : Nat} (h : hasT P t = true) : ∃ i, P.info? t = some i ∧ P.cellsOf t = i.size ∧ P.bytesOf t = i.bytes := by
  unfold hasT at h
  simp only [Bool.and_eq_true, Option.isSome_iff_exists] at h
  obtain ⟨_, i, hi⟩ := h
  exact ⟨i, hi, by simp [Program.cellsOf, hi], by simp [Program.bytesOf, hi]⟩
theorem zeroIs_spec {e : Nat} {z : List PV} (h : zeroIs P e z = true) : ∃ i zv, P.info? e = some i ∧ i.zero = some zv ∧ ∀ K, RepL K z zv.cells.toList := by
  unfold zeroIs at h
  split at h
  · rename_i i hi
    split at h
    · rename_i zv hz
      exact ⟨i, zv, hi, hz, fun K => cvOkL_rep K z _ h⟩
    · cases h
  · cases h
theorem sliceIs_spec {t e sz : Nat} (h : sliceIs P t e sz = true) : P.underlying t = some (.slice e) ∧ hasT P e = true ∧ P.cellsOf e = sz ∧ 0 < sz := by
  unfold sliceIs at h
  split at h
  · rename_i e' he
    simp only [Bool.and_eq_true, beq_iff_eq, decide_eq_true_eq] at h
    obtain ⟨⟨⟨rfl, h1⟩, h2⟩, h3⟩ := h
    exact ⟨he, h1, h2, h3⟩
  · cases h
theorem sliceSz_spec {t sz : Nat} (h : sliceSz P t sz = true) : ∃ e, P.underlying t = some (.slice e) ∧ hasT P e = true ∧ sz = P.cellsOf e := by
  unfold sliceSz at h
  split at h
  · rename_i e he
    simp only [Bool.and_eq_true, beq_iff_eq] at h
    exact ⟨e, he, h.1, h.2⟩
  · cases h
theorem arrayIs_spec {t n sz : Nat} (h : arrayIs P t n sz = true) : ∃ e, P.underlying t = some (.array n e) ∧ hasT P e = true ∧ sz = P.cellsOf e := by
  unfold arrayIs at h
  split at h
  · rename_i len e he
    simp only [Bool.and_eq_true, beq_iff_eq] at h
    obtain ⟨⟨h1, rfl⟩, h2⟩ := h
    exact ⟨e, he, h1, h2⟩
  · cases h
theorem isSliceT_spec {t : Nat} (h : isSliceT P t = true) : ∃ e, P.underlying t = some (.slice e) := by
  unfold isSliceT at h
  split at h
  · exact ⟨_, by assumption⟩
  · cases h
theorem cvNil_spec {X : Operand} (h : cvNil X = true) : a.eval X = .slice none 0 0 := by
  unfold cvNil at h
  split at h
  · rename_i v
    have := cvOk_rep ⟨default, fun _ => False, fun _ => False, noMu⟩ _ _ h
    obtain ⟨_, _, ao, n, c, rfl, _, ⟨rfl, rfl, rfl⟩, _⟩ := this
    rfl
  · cases h

theorem mapIs_spec {t : Nat} {kn : Option Nat} (h : mapIs P t kn = true) : ∃ kt e, P.underlying t = some (.map kt e) ∧ keyTy P kt kn = true := by
  unfold mapIs at h
  split at h
  · exact ⟨_, _, by assumption, h⟩
  · cases h
theorem isMapT_spec {t : Nat} (h : isMapT P t = true) : ∃ kt e, P.underlying t = some (.map kt e) := by
  unfold isMapT at h
  split at h
  · exact ⟨_, _, by assumption⟩
  · cases h
theorem mapZ_spec {t : Nat} {kn : Option Nat} {z : PV} (h : mapZ P t kn z = true) : ∃ kt e i zv, P.underlying t = some (.map kt e) ∧ keyTy P kt kn = true ∧ P.info? e = some i ∧ i.zero = some zv ∧ cvOk zv z = true := by
  unfold mapZ at h
  split at h
  · rename_i kt e ht
    simp only [Bool.and_eq_true] at h
    obtain ⟨h1, h2⟩ := h
    split at h2
    · rename_i i hi
      split at h2
      · rename_i zv hz
        exact ⟨kt, e, i, zv, ht, h1, hi, hz, h2⟩
      · cases h2
    · cases h2
  · cases h
theorem evR_ok (hcp : ∀ f args r, cp f args = some r → PureOk P f args r) (hfz : FzOk fz) (hm : MethOk P meth) {p : POp} {v : PV} (hop : opOk P o.op p = true) (hE : ERel K N env a) (hH : HRel K H)
    (he : evR cp fz meth env H p = some v) : OpOk P o a K H v H := by
  cases p <;> simp only [evR, reduceCtorEq] at he
  case eqp neg x y =>
    simp only [opOk] at hop
    split at hop
    · rename_i op t X Y yt ho
      simp only [Bool.and_eq_true, beq_iff_eq] at hop
      obtain ⟨⟨⟨h1, h2⟩, h3⟩, h4⟩ := hop
      split at h2
      · rename_i e ht
        exact ok_eqp (neg := neg) (by rw [h1]; rfl) ht ho hH (opd_rep hE h3) (opd_rep hE h4) he
      · cases h2
    · cases hop
  case mlk kn z cok m k =>
    simp only [opOk] at hop
    split at hop
    · rename_i t M X c ho
      simp only [Bool.and_eq_true, beq_iff_eq] at hop
      obtain ⟨⟨⟨rfl, hz⟩, h1⟩, h2⟩ := hop
      obtain ⟨kt, e, i, zv, ht, hk, hi, hz, hv⟩ := mapZ_spec hz
      exact ok_mlk ho ht hk hi hz (cvOk_rep K z zv hv) hH (opd_rep hE h1) (opd_rep hE h2) he
    · cases hop
  case mln kn m =>
    simp only [opOk] at hop
    split at hop
    · rename_i as ts ho
      split at hop
      · rename_i X t has hts
        simp only [Bool.and_eq_true] at hop
        obtain ⟨kt, e, ht⟩ := isMapT_spec hop.1
        obtain ⟨as⟩ := as
        obtain ⟨ts⟩ := ts
        simp only at has hts
        subst has; subst hts
        exact ok_mln ho ht hH (opd_rep hE hop.2) he
      · cases hop
    · cases hop
  case mv x =>
    simp only [opOk] at hop
    simp only [Option.some.injEq] at he
    subst he
    split at hop
    · exact ok_mv (.inl (by assumption)) hH (opd_rep hE hop)
    · exact ok_mv (.inr (by assumption)) hH (opd_rep hE hop)
    · cases hop
  case pick c x y =>
    simp only [opOk] at hop
    split at hop
    · simp only [Bool.and_eq_true] at hop
      exact ok_pick (by assumption) hH (opd_rep hE hop.1.1) (opd_rep hE hop.1.2) (opd_rep hE hop.2) he
    · cases hop
  case boxp e x =>
    simp only [opOk] at hop
    split at hop
    · simp only [Bool.and_eq_true] at hop
      exact ok_boxp (by assumption) hH (opd_rep hE hop.2) he
    · cases hop
  case bld z ps =>
    simp only [opOk] at hop
    split at hop
    · rename_i t parts ho
      simp only [Bool.and_eq_true] at hop
      obtain ⟨hz, hop⟩ := hop
      obtain ⟨i, zv, hi, hzv, hrz⟩ := zeroIs_spec hz
      split at hop
      · rename_i fs ht
        simp only [Bool.and_eq_true] at hop
        obtain ⟨hl, hr⟩ := parts_rep hE hop.2
        refine ok_bld_struct ho hi hzv (hrz K) ht hop.1 (by simpa using hl) (fun j p q hp hq => ?_) hH he
        obtain ⟨h1, h2⟩ := hr j p q hp (by simpa using hq)
        rw [Option.map_eq_some_iff] at h1
        obtain ⟨f, hf, h1⟩ := h1
        simp only [Prod.mk.injEq] at h1
        exact ⟨⟨f, hf, h1.1.symm, h1.2.symm⟩, h2⟩
      · rename_i e ht
        simp only [Bool.and_eq_true] at hop
        obtain ⟨hl, hr⟩ := parts_rep hE hop.2
        refine ok_bld_array ho hi hzv (hrz K) ht hop.1 (by simpa using hl) (fun j p q hp hq => ?_) hH he
        obtain ⟨h1, h2⟩ := hr j p q hp (by simpa using hq)
        simp only [Option.some.injEq, Prod.mk.injEq] at h1
        exact ⟨⟨h1.1.symm, h1.2.symm⟩, h2⟩
      · cases hop
    · cases hop
  case bsl n sz z ps =>
    simp only [opOk] at hop
    split at hop
    · rename_i t n' parts ho
      simp only [Bool.and_eq_true, beq_iff_eq] at hop
      obtain ⟨rfl, hop⟩ := hop
      split at hop
      · rename_i e ht
        simp only [Bool.and_eq_true, beq_iff_eq, decide_eq_true_eq] at hop
        obtain ⟨⟨⟨⟨h1, h2⟩, h3⟩, h4⟩, h5⟩ := hop
        obtain ⟨_, heT, hc, hp⟩ := sliceIs_spec h1
        obtain ⟨i, zv, hi, hzv, hrz⟩ := zeroIs_spec h2
        obtain ⟨i', hi', hci, _⟩ := hasT_info heT
        rw [hi] at hi'
        obtain rfl : i = i' := by simpa using hi'
        obtain rfl : sz = i.size := by rw [← hc, hci]
        obtain ⟨hl, hr⟩ := parts_rep hE h5
        refine ok_bsl ho ht hi hzv (hrz K) h3 hp h4 (by simpa using hl) (fun j p q hp hq => ?_) hH he
        obtain ⟨h1, h2⟩ := hr j p q hp (by simpa using hq)
        simp only [Option.some.injEq, Prod.mk.injEq] at h1
        exact ⟨⟨h1.1.symm, h1.2.symm⟩, h2⟩
      · cases hop
    · cases hop
  case ld n x =>
    simp only [opOk] at hop
    split at hop
    · simp only [Bool.and_eq_true, beq_iff_eq] at hop
      exact ok_ld (by assumption) hop.1.1 hop.1.2 hH (opd_rep hE hop.2) he
    · cases hop
  case nck x =>
    simp only [opOk] at hop
    split at hop
    · rename_i X ho
      unfold evNckM at he
      split at he
      · rename_i name t u c hx
        split at he
        case isFalse => cases he
        rename_i hm'
        obtain ⟨f, hf⟩ := Option.isSome_iff_exists.1 hm'
        simp only [Option.some.injEq] at he
        subst he
        have hr := opd_rep hE hop
        rw [hx] at hr
        have hr0 := hr
        obtain ⟨f', c', hv, hfr, hcr⟩ := hr
        obtain ⟨y, ys, e1, hy, hys⟩ := hfr
        obtain ⟨z, rfl, hz⟩ := hy
        have hf0 : f'[0]? = some (.iface t z) := by rw [← Array.getElem?_toList, e1]; rfl
        refine OpOk.of_same (rv := a.eval X) ?_ hH hr0
        simp [execOp, ho, hv, hf0, (hm t name f hf z K.w).2]
      · exact ok_nck ho hH (opd_rep hE hop) he
    · cases hop
  case bin op x y =>
    simp only [opOk] at hop
    split at hop
    · simp only [Bool.and_eq_true, beq_iff_eq] at hop
      obtain ⟨⟨rfl, h1⟩, h2⟩ := hop
      exact ok_bin (by assumption) hH (opd_rep hE h1) (opd_rep hE h2) he
    · cases hop
  case un op x =>
    simp only [opOk] at hop
    split at hop
    · simp only [Bool.and_eq_true, beq_iff_eq] at hop
      obtain ⟨rfl, h1⟩ := hop
      exact ok_un (by assumption) hH (opd_rep hE h1) he
    · cases hop
  case conv k x =>
    simp only [opOk] at hop
    split at hop
    · simp only [Bool.and_eq_true] at hop
      obtain ⟨⟨h1, h2⟩, h3⟩ := hop
      obtain ⟨ds, hds⟩ := Option.isSome_iff_exists.1 h1
      split at h2
      · rename_i k' hd
        simp only [beq_iff_eq] at h2
        subst h2
        exact ok_conv (by assumption) hds hd hH (opd_rep hE h3) he
      · cases h2
    · cases hop
  case eqb neg x y =>
    simp only [opOk] at hop
    split at hop
    · simp only [Bool.and_eq_true, beq_iff_eq] at hop
      obtain ⟨⟨⟨h1, h2⟩, h3⟩, h4⟩ := hop
      split at h2
      · exact ok_eqb h1 (by assumption) (by assumption) hH (opd_rep hE h3) (opd_rep hE h4) he
      · cases h2
    · cases hop
  case eqn neg x y =>
    simp only [opOk] at hop
    split at hop
    · simp only [Bool.and_eq_true, beq_iff_eq] at hop
      obtain ⟨⟨⟨h1, h2⟩, h3⟩, h4⟩ := hop
      obtain ⟨e, ht⟩ := isSliceT_spec h2
      exact ok_eqnil h1 ht (by assumption) hH (opd_rep hE h3) (opd_rep hE h4) he
    · cases hop
  case eqs neg ks x y =>
    simp only [opOk] at hop
    split at hop
    · rename_i op t X Y yt ho
      simp only [Bool.and_eq_true, beq_iff_eq, Bool.not_eq_true'] at hop
      obtain ⟨⟨⟨⟨⟨⟨h1, h2⟩, h3⟩, h4⟩, h5⟩, h6⟩, h7⟩ := hop
      split at h2
      · rename_i fs hfs
        have hft : P.underlying t = some (.struct (P.fieldsOf t)) := by
          rw [hfs]; simp [Program.fieldsOf, hfs]
        exact ok_eqs h1 (by assumption) hft h3 h4 h5 hH (opd_rep hE h6) (opd_rep hE h7) he
      · cases h2
    · cases hop
  case ext i x =>
    simp only [opOk] at hop
    split at hop
    · simp only [Bool.and_eq_true, beq_iff_eq] at hop
      obtain ⟨rfl, h1⟩ := hop
      exact ok_ext (by assumption) hH (opd_rep hE h1) he
    · cases hop
  case mkif t x =>
    simp only [opOk] at hop
    simp only [Option.some.injEq] at he
    subst he
    split at hop
    · simp only [Bool.and_eq_true, beq_iff_eq] at hop
      obtain ⟨⟨rfl, h1⟩, h2⟩ := hop
      split at h1
      · cases h1
      · rename_i d hni hd
        refine ok_mkif (by assumption) hd ?_ hH (opd_rep hE h2)
        cases d <;> first | rfl | exact absurd rfl (hni _)
      · cases h1
    · cases hop
  case mkf fn fs cs =>
    simp only [opOk] at hop
    simp only [Option.some.injEq] at he
    subst he
    split at hop
    · simp only [Bool.and_eq_true, beq_iff_eq] at hop
      obtain ⟨⟨rfl, h1⟩, h2⟩ := hop
      exact ok_mkf (by assumption) hH (opds_rep hE h1) (opds_rep hE h2)
    · cases hop
  case fld n off x =>
    simp only [opOk] at hop
    split at hop
    · simp only [Bool.and_eq_true] at hop
      obtain ⟨h1, h2⟩ := hop
      split at h1
      · rename_i fs ht
        split at h1
        · rename_i f hf
          simp only [Bool.and_eq_true, beq_iff_eq] at h1
          obtain ⟨⟨h3, h4⟩, rfl⟩ := h1
          exact ok_fld (by assumption) ht hf h3 h4 hH (opd_rep hE h2) he
        · cases h1
      · cases h1
    · cases hop
  case ixA n sz m x i =>
    simp only [opOk] at hop
    split at hop
    · simp only [Bool.and_eq_true] at hop
      obtain ⟨⟨h1, h2⟩, h3⟩ := hop
      split at h1
      · rename_i len e ht
        simp only [Bool.and_eq_true, beq_iff_eq] at h1
        obtain ⟨⟨⟨h4, rfl⟩, rfl⟩, h5⟩ := h1
        exact ok_ixA (by assumption) ht h4 h5 hH (opd_rep hE h2) (opd_rep hE h3) he
      · cases h1
    · cases hop
  case faddr off x =>
    simp only [opOk] at hop
    split at hop
    · simp only [Bool.and_eq_true] at hop
      obtain ⟨h1, h2⟩ := hop
      split at h1
      · rename_i fs ht
        split at h1
        · rename_i f hf
          simp only [Bool.and_eq_true, beq_iff_eq, bne_iff_ne, ne_eq] at h1
          obtain ⟨⟨h3, h4⟩, rfl⟩ := h1
          exact ok_faddr (by assumption) ht hf h3 h4 hH (opd_rep hE h2) he
        · cases h1
      · cases h1
    · cases hop
  case iaS sz x i =>
    simp only [opOk] at hop
    split at hop
    · simp only [Bool.and_eq_true] at hop
      obtain ⟨⟨h1, h2⟩, h3⟩ := hop
      obtain ⟨e, ht, heT, rfl⟩ := sliceSz_spec h1
      exact ok_iaS (by assumption) ht heT hH (opd_rep hE h2) (opd_rep hE h3) he
    · cases hop
  case iaA n sz x i =>
    simp only [opOk] at hop
    split at hop
    · simp only [Bool.and_eq_true] at hop
      obtain ⟨⟨h1, h2⟩, h3⟩ := hop
      obtain ⟨e, ht, heT, rfl⟩ := arrayIs_spec h1
      exact ok_iaA (by assumption) ht heT hH (opd_rep hE h2) (opd_rep hE h3) he
    · cases hop
  case len x =>
    simp only [opOk] at hop
    split at hop
    · rename_i as ts ho
      split at hop
      · rename_i X t has hts
        simp only [Bool.and_eq_true] at hop
        obtain ⟨e, ht⟩ := isSliceT_spec hop.1
        obtain ⟨as⟩ := as
        obtain ⟨ts⟩ := ts
        simp only at has hts
        subst has; subst hts
        exact ok_len ho ht hH (opd_rep hE hop.2) he
      · cases hop
    · cases hop
  case lenA n =>
    simp only [opOk] at hop
    simp only [Option.some.injEq] at he
    subst he
    split at hop
    · rename_i as ts ho
      split at hop
      · rename_i X t has hts
        split at hop
        · rename_i len e ht
          simp only [beq_iff_eq] at hop
          subst hop
          obtain ⟨as⟩ := as
          obtain ⟨ts⟩ := ts
          simp only at has hts
          subst has; subst hts
          exact ok_lenA ho ht hH
        · cases hop
      · cases hop
    · cases hop
  case mn x xs =>
    simp only [opOk] at hop
    split at he
    case isFalse => cases he
    rename_i hi
    split at hop
    · refine ok_min (by assumption) hH (opds_rep hE hop) ?_ he
      cases hq : ev env x <;> rw [hq] at hi <;> simp [isIntV] at hi
      exact ⟨_, _, rfl⟩
    · cases hop
  case mx x xs =>
    simp only [opOk] at hop
    split at he
    case isFalse => cases he
    rename_i hi
    split at hop
    · refine ok_max (by assumption) hH (opds_rep hE hop) ?_ he
      cases hq : ev env x <;> rw [hq] at hi <;> simp [isIntV] at hi
      exact ⟨_, _, rfl⟩
    · cases hop
  case slc sz x lo hi mx =>
    simp only [opOk] at hop
    split at hop
    · simp only [Bool.and_eq_true] at hop
      obtain ⟨⟨⟨⟨h1, h2⟩, h3⟩, h4⟩, h5⟩ := hop
      obtain ⟨e, ht, heT, rfl⟩ := sliceSz_spec h1
      exact ok_slc (by assumption) ht heT hH (opd_rep hE h2) (opdOpt_rep hE h3) (opdOpt_rep hE h4) (opdOpt_rep hE h5) he
    · cases hop
  case slcA n sz x lo hi =>
    simp only [opOk] at hop
    split at hop
    · rename_i t X Lo Hi Mx ho
      simp only [Bool.and_eq_true] at hop
      obtain ⟨⟨⟨⟨h0, h1⟩, h2⟩, h3⟩, h4⟩ := hop
      cases Mx with
      | some _ => simp at h0
      | none =>
        obtain ⟨e, ht, heT, rfl⟩ := arrayIs_spec h1
        exact ok_slcA ho ht heT hH (opd_rep hE h2) (opdOpt_rep hE h3) (opdOpt_rep hE h4) he
    · cases hop
  case appp e sz bytes s x =>
    simp only [opOk] at hop
    split at hop
    · rename_i as ts ho
      split at hop
      · rename_i S X t t' has hts
        simp only [Bool.and_eq_true, beq_iff_eq, decide_eq_true_eq] at hop
        obtain ⟨⟨⟨⟨⟨⟨rfl, h1⟩, h2⟩, h3⟩, h4⟩, h5⟩, h6⟩ := hop
        obtain ⟨ht, heT, hc, hp⟩ := sliceIs_spec h1
        obtain ⟨i', hi', hci, hbi⟩ := hasT_info heT
        rw [hi'] at h4
        simp only at h4
        split at h4
        · rename_i zv hz
          simp only [beq_iff_eq] at h4
          obtain rfl : sz = i'.size := by rw [← hc, hci]
          obtain rfl : bytes = i'.bytes := by rw [← h2, hbi]
          obtain ⟨as⟩ := as
          obtain ⟨ts⟩ := ts
          simp only at has hts
          subst has; subst hts
          exact ok_appp ho ht hi' hz h4 hp h3 hH (opd_rep hE h5) (opd_rep hE h6) he
        · cases h4
      · cases hop
    · cases hop
  case call f m xs =>
    cases m <;> simp only [evR, reduceCtorEq] at he
    simp only [opOk] at hop
    split at hop
    · rename_i f' as ts ho
      simp only [Bool.and_eq_true, beq_iff_eq] at hop
      obtain ⟨rfl, hop⟩ := hop
      refine OpOk.of_cp hcp hfz hH (opds_rep hE hop) he fun hin => ?_
      have hrun := run_call_func (P := P) (a := a) ho rfl (fs := #[]) (cs := #[]) rfl hin K.w
      rw [hrun]
      congr 2
      apply Array.ext'
      simp
    · cases hop
  case callv x m xs =>
    cases m <;> simp only [evR, reduceCtorEq] at he
    rw [Option.bind_eq_some_iff] at he
    obtain ⟨⟨f, args⟩, hq, he⟩ := he
    simp only [opOk] at hop
    split at hop
    · rename_i F as ts ho
      simp only [Bool.and_eq_true] at hop
      obtain ⟨fs, cs, hF, hargs⟩ := cloArgs_rep (opd_rep hE hop.1) (opds_rep hE hop.2) hq
      refine OpOk.of_cp hcp hfz hH hargs he fun hin => ?_
      have hrun := run_call_func (P := P) (a := a) ho rfl hF hin K.w
      rw [hrun]
      congr 2
      apply Array.ext'
      simp
    · cases hop
  case inv x name m xs =>
    cases m <;> simp only [evR, reduceCtorEq] at he
    split at he
    case h_2 => cases he
    rename_i t u hx
    rw [Option.bind_eq_some_iff] at he
    obtain ⟨f, hf, he⟩ := he
    simp only [opOk] at hop
    split at hop
    · rename_i R name' as ts ho
      simp only [Bool.and_eq_true, beq_iff_eq] at hop
      obtain ⟨⟨rfl, h1⟩, h2⟩ := hop
      have hr := opd_rep hE h1
      rw [hx] at hr
      obtain ⟨u', hR, hu⟩ := hr
      refine OpOk.of_cp hcp hfz hH (show RepL K (u :: evs env xs) (u' :: as.toList.map a.eval) from ⟨_, _, rfl, hu, opds_rep hE h2⟩) he fun hin => ?_
      have hrun := run_call_inv (P := P) (a := a) ho rfl hR (fun v w => (hm t name' f hf v w).1) hin K.w
      rw [hrun]
      congr 2
      apply Array.ext'
      simp
    · cases hop

theorem evE_ok (hco : ∀ f args H r H', co f args H = some (r, H') → OpenOk P f args H r H') (hm : MethOk P meth) {p : POp} {v : PV} {H' : Hp} (hop : opOk P o.op p = true) (hE : ERel K N env a) (hH : HRel K H)
    (he : evE co meth env H p = some (v, H')) : OpOk P o a K H v H' := by
  cases p <;> simp only [evE, reduceCtorEq] at he
  case clr sz z x =>
    simp only [opOk] at hop
    split at hop
    · rename_i as ts ho
      split at hop
      · rename_i X t has hts
        split at hop
        · rename_i e ht
          simp only [Bool.and_eq_true, beq_iff_eq, decide_eq_true_eq] at hop
          obtain ⟨⟨⟨⟨hz, hT⟩, rfl⟩, hpos⟩, hX⟩ := hop
          obtain ⟨as⟩ := as
          obtain ⟨ts⟩ := ts
          simp only at has hts
          subst has; subst hts
          obtain ⟨i, zv, hi, hzv, hr⟩ := zeroIs_spec hz
          obtain ⟨i', hi', hc, _⟩ := hasT_info hT
          rw [hi, Option.some.injEq] at hi'
          subst hi'
          rw [hc] at he hpos
          exact ok_clr (z0 := .undef) ho ht hi hzv (hr K) hpos hH (opd_rep hE hX) he
        · cases hop
      · cases hop
    · cases hop
  case mkm kn =>
    simp only [evMkm, Option.some.injEq, Prod.mk.injEq] at he
    obtain ⟨rfl, rfl⟩ := he
    simp only [opOk] at hop
    split at hop
    · rename_i t r ho
      simp only [Option.isNone_iff_eq_none] at hop
      subst hop
      exact ok_mkm ho hH
    · cases hop
  case mup kn m k x =>
    simp only [opOk] at hop
    simp only [Option.map_eq_some_iff, Prod.mk.injEq] at he
    obtain ⟨H2, he, rfl, rfl⟩ := he
    split at hop
    · rename_i t M X V ho
      simp only [Bool.and_eq_true] at hop
      obtain ⟨⟨⟨h0, h1⟩, h2⟩, h3⟩ := hop
      obtain ⟨kt, e, ht, hk⟩ := mapIs_spec h0
      exact ok_mup (.inl ho) ht hk hH (opd_rep hE h1) (opd_rep hE h2) (opd_rep hE h3) he
    · rename_i t M X V ho
      simp only [Bool.and_eq_true] at hop
      obtain ⟨⟨⟨h0, h1⟩, h2⟩, h3⟩ := hop
      obtain ⟨kt, e, ht, hk⟩ := mapIs_spec h0
      exact ok_mup (.inr ho) ht hk hH (opd_rep hE h1) (opd_rep hE h2) (opd_rep hE h3) he
    · cases hop
  case mpe kn z m k =>
    simp only [opOk] at hop
    split at hop
    · rename_i t M X ho
      simp only [Bool.and_eq_true] at hop
      obtain ⟨⟨h0, h1⟩, h2⟩ := hop
      obtain ⟨kt, e, i, zv, ht, hk, hi, hz, hv⟩ := mapZ_spec h0
      exact ok_mpe ho ht hk hi hz (cvOk_rep K z zv hv) hH (opd_rep hE h1) (opd_rep hE h2) he
    · cases hop
  case est kn m s x =>
    simp only [opOk] at hop
    simp only [Option.map_eq_some_iff, Prod.mk.injEq] at he
    obtain ⟨H2, he, rfl, rfl⟩ := he
    split at hop
    · rename_i t M S V ho
      simp only [Bool.and_eq_true] at hop
      obtain ⟨⟨h1, h2⟩, h3⟩ := hop
      exact ok_est ho hH (opd_rep hE h1) (opd_rep hE h2) (opd_rep hE h3) he
    · cases hop
  case nacc e sz =>
    simp only [Option.some.injEq, Prod.mk.injEq] at he
    obtain ⟨rfl, rfl⟩ := he
    simp only [opOk] at hop
    split at hop
    · simp only [Bool.and_eq_true, decide_eq_true_eq] at hop
      exact ok_nacc e sz hop.2 (.inl (by assumption)) (cvNil_spec hop.1) hH
    · simp only [Bool.and_eq_true, decide_eq_true_eq] at hop
      exact ok_nacc e sz hop.2 (.inr (by assumption)) (cvNil_spec hop.1) hH
    · cases hop
  case boxm e x =>
    simp only [opOk] at hop
    split at hop
    · simp only [Bool.and_eq_true, beq_iff_eq] at hop
      obtain ⟨rfl, h1⟩ := hop
      exact ok_boxm (by assumption) hH (opd_rep hE h1) he
    · cases hop
  case zer e z =>
    simp only [opOk] at hop
    split at hop
    · simp only [Bool.and_eq_true, beq_iff_eq] at hop
      obtain ⟨rfl, h1⟩ := hop
      split at h1
      · rename_i i hi
        split at h1
        · rename_i zv hz
          exact ok_alloc (by assumption) hi hz (cvOk_rep K z zv h1) hH he
        · cases h1
      · cases h1
    · cases hop
  case bslm e n sz z ps =>
    simp only [opOk] at hop
    split at hop
    · rename_i t n' parts ho
      simp only [Bool.and_eq_true, beq_iff_eq, decide_eq_true_eq] at hop
      obtain ⟨⟨⟨⟨⟨rfl, h1⟩, h2⟩, h3⟩, h4⟩, h5⟩ := hop
      obtain ⟨ht, heT, hc, hp⟩ := sliceIs_spec h1
      obtain ⟨i, zv, hi, hzv, hrz⟩ := zeroIs_spec h2
      obtain ⟨i', hi', hci, _⟩ := hasT_info heT
      rw [hi] at hi'
      obtain rfl : i = i' := by simpa using hi'
      obtain rfl : sz = i.size := by rw [← hc, hci]
      obtain ⟨hl, hr⟩ := parts_rep hE h5
      refine ok_bslm ho ht hi hzv (hrz K) h3 hp h4 (by simpa using hl) (fun j p q hp hq => ?_) hH he
      obtain ⟨h1, h2⟩ := hr j p q hp (by simpa using hq)
      simp only [Option.some.injEq, Prod.mk.injEq] at h1
      exact ⟨⟨h1.1.symm, h1.2.symm⟩, h2⟩
    · cases hop
  case st n x y =>
    rw [Option.map_eq_some_iff] at he
    obtain ⟨H'', h1, h2⟩ := he
    simp only [Prod.mk.injEq] at h2
    obtain ⟨rfl, rfl⟩ := h2
    simp only [opOk] at hop
    split at hop
    · simp only [Bool.and_eq_true, beq_iff_eq] at hop
      exact ok_st (by assumption) hop.1.1.1 hop.1.1.2 hH (opd_rep hE hop.1.2) (opd_rep hE hop.2) h1
    · cases hop
  case mks e sz bytes z l c =>
    simp only [opOk] at hop
    split at hop
    · rename_i t L C ho
      simp only [Bool.and_eq_true, beq_iff_eq, decide_eq_true_eq] at hop
      obtain ⟨⟨⟨⟨⟨⟨h1, h2⟩, h3⟩, h4⟩, h5⟩, h6⟩, h7⟩ := hop
      obtain ⟨ht, heT, hc, hp⟩ := sliceIs_spec h1
      obtain ⟨i, zv, hi, hzv, hrz⟩ := zeroIs_spec h2
      obtain ⟨i', hi', hci, hbi⟩ := hasT_info heT
      rw [hi] at hi'
      obtain rfl : i = i' := by simpa using hi'
      obtain rfl : sz = i.size := by rw [← hc, hci]
      obtain rfl : bytes = i.bytes := by rw [← h4, hbi]
      exact ok_mks ho ht hi hzv (hrz K) h3 hp h5 hH (opd_rep hE h6) (opd_rep hE h7) he
    · cases hop
  case app e sz bytes s x =>
    simp only [opOk] at hop
    split at hop
    · rename_i as ts ho
      split at hop
      · rename_i S X t t' has hts
        simp only [Bool.and_eq_true, beq_iff_eq, decide_eq_true_eq] at hop
        obtain ⟨⟨⟨⟨⟨⟨rfl, h1⟩, h2⟩, h3⟩, h4⟩, h5⟩, h6⟩ := hop
        obtain ⟨ht, heT, hc, hp⟩ := sliceIs_spec h1
        obtain ⟨i', hi', hci, hbi⟩ := hasT_info heT
        rw [hi'] at h4
        simp only at h4
        split at h4
        · rename_i zv hz
          simp only [beq_iff_eq] at h4
          obtain rfl : sz = i'.size := by rw [← hc, hci]
          obtain rfl : bytes = i'.bytes := by rw [← h2, hbi]
          obtain ⟨as⟩ := as
          obtain ⟨ts⟩ := ts
          simp only at has hts
          subst has; subst hts
          exact ok_app ho ht hi' hz h4 hp h3 hH (opd_rep hE h5) (opd_rep hE h6) he
        · cases h4
      · cases hop
    · cases hop
  case call f m xs =>
    cases m <;> simp only [evE, reduceCtorEq] at he
    have hp := hco f _ H v H' he
    simp only [opOk] at hop
    split at hop
    · rename_i f' as ts ho
      simp only [Bool.and_eq_true, beq_iff_eq] at hop
      obtain ⟨rfl, hop⟩ := hop
      have hrun := run_call_func (P := P) (a := a) ho rfl (fs := #[]) (cs := #[]) rfl hp.1 K.w
      refine OpOk.of_open hH hrun hp ?_
      simpa using opds_rep hE hop
    · cases hop
  case callv x m xs =>
    cases m <;> simp only [evE, reduceCtorEq] at he
    rw [Option.bind_eq_some_iff] at he
    obtain ⟨⟨f, args⟩, hq, he⟩ := he
    have hp := hco f _ H v H' he
    simp only [opOk] at hop
    split at hop
    · rename_i F as ts ho
      simp only [Bool.and_eq_true] at hop
      obtain ⟨fs, cs, hF, hargs⟩ := cloArgs_rep (opd_rep hE hop.1) (opds_rep hE hop.2) hq
      have hrun := run_call_func (P := P) (a := a) ho rfl hF hp.1 K.w
      refine OpOk.of_open hH hrun hp ?_
      simpa using hargs
    · cases hop
  case inv x name m xs =>
    cases m <;> simp only [evE, reduceCtorEq] at he
    split at he
    case h_2 => cases he
    rename_i t u hx
    rw [Option.bind_eq_some_iff] at he
    obtain ⟨f, hf, he⟩ := he
    have hp := hco f _ H v H' he
    simp only [opOk] at hop
    split at hop
    · rename_i R name' as ts ho
      simp only [Bool.and_eq_true, beq_iff_eq] at hop
      obtain ⟨⟨rfl, h1⟩, h2⟩ := hop
      have hr := opd_rep hE h1
      rw [hx] at hr
      obtain ⟨u', hR, hu⟩ := hr
      have hrun := run_call_inv (P := P) (a := a) ho rfl hR (fun v w => (hm t name' f hf v w).1) hp.1 K.w
      refine OpOk.of_open hH hrun hp ?_
      have : RepL K (u :: evs env xs) (u' :: as.toList.map a.eval) := ⟨_, _, rfl, hu, opds_rep hE h2⟩
      simpa using this
    · cases hop

theorem evOp_ok (hcp : ∀ f args r, cp f args = some r → PureOk P f args r) (hco : ∀ f args H r H', co f args H = some (r, H') → OpenOk P f args H r H') (hfz : FzOk fz) (hm : MethOk P meth) {p : POp} {v : PV} {H' : Hp}
    (hop : opOk P o.op p = true) (hE : ERel K N env a) (hH : HRel K H) (he : evOp cp co fz meth env H p = some (v, H')) : OpOk P o a K H v H' := by
  unfold evOp at he
  split at he
  · exact evE_ok hco hm hop hE hH he
  · rw [Option.map_eq_some_iff] at he
    obtain ⟨v', h1, h2⟩ := he
    simp only [Prod.mk.injEq] at h2
    obtain ⟨rfl, rfl⟩ := h2
    exact evR_ok hcp hfz hm hop hE hH h1
end
end Go.Proofs.Ytmbknidfkddpfaa.PM
