/- The pure machine, part 12: whole codes and functions, and that they do what the model's do. -/
import Derived.Test.YtfocelelbcepnaaPmTwentyThree
import Derived.RangeFuncSeq
import Derived.Sort.LoopGhostIn
set_option linter.unusedVariables false
set_option linter.unusedSimpArgs false
namespace Go.Proofs.Ytfocelelbcepnaa.PM
open Go.RowKit (Below)

inductive PCode where
  | skip
  | reg (rs : List ROp) (chk : List (Nat × Nat)) (live : List Nat)
  | seq (a b : PCode)
  | cond (c : POpd) (a b : PCode)
  | blk (id : Nat) (c : PCode)
  | loop (c : PCode)
  | trim (c : PCode)
  | rng (x : POpd) (p : Nat) (a b : PCode)
  | ext (id : Nat)
  | ret
  | bad
  deriving Inhabited

inductive PX where
  | normal
  | exit (id : Nat)
  | ret
  deriving DecidableEq, Inhabited

inductive PRes where
  | tmp (t : Nat)
  | cell (t : Nat) (n : Option Nat)
  deriving Inhabited

structure PFn where
  nt : Nat
  np : Nat
  res : List PRes
  body : PCode
  deriving Inhabited

structure Table where
  fns : List (Nat × PFn)
  nat : Nat → List PV → Option PV
  natO : Nat → List PV → Hp → Option (PV × Hp)
  meth : Nat → String → Option Nat
  sq : Nat → List PV → Option (List Int)

def findF : List (Nat × PFn) → Nat → Option PFn
  | [], _ => none
  | (k, F) :: r, f => if k = f then some F else findF r f

def trimOk (k : Nat) (env : Env) (H : Hp) : Bool := env.all (fun x => x.2.noRef k) && (H.take k).all fun B => B.nr k

def env0 (args : List PV) : Env := args.zipIdx.map fun x => (x.2, x.1)
def resV (env : Env) (H : Hp) : PRes → Option PV
  | .tmp t => some (get env t)
  | .cell t n => evLd n (get env t) H
def resL (env : Env) (H : Hp) : List PRes → Option (List PV)
  | [] => some []
  | r :: rs => (resV env H r).bind fun v => (resL env H rs).map fun vs => v :: vs
def retV (env : Env) (H : Hp) (res : List PRes) : Option PV := (resL env H res).map fun vs => match vs with | [v] => v | vs => .tup vs

def ends (x : PX) : Bool := match x with | .normal | .ret => true | .exit _ => false

/-- The rounds of a range over an iterator that yields these. -/
def rngRun (ex : PCode → Env → Hp → Option (PX × Env × Hp)) (p : Nat) (a b : PCode) (env : Env) : List Int → Hp → Option (PX × Env × Hp)
  | [], H => some (.normal, env, H)
  | i :: is, H => (ex a ((p, .int .i64 i) :: env) H).bind fun q => match q.1 with
    | .normal => (ex b q.2.1 q.2.2).bind fun r => match r.1 with
      | .normal => rngRun ex p a b env is r.2.2
      | x => some (x, env, r.2.2)
    | _ => none
section
variable (T : Table) (ex : PCode → Env → Hp → Option (PX × Env × Hp))
def rngSrc (v : PV) : Option (List Int) := match v with | .clo (.func g) [] cs => T.sq g cs | _ => none
def callP (f : Nat) (args : List PV) : Option PV :=
  match T.nat f args with
  | some r => some r
  | none => (findF T.fns f).bind fun F => if args.length = F.np then
      (ex F.body (env0 args) []).bind fun q => if ends q.1 then (retV q.2.1 q.2.2 F.res).bind fun v => (frz q.2.2 .any 64 v).bind fun v' => if v'.cleanB then some v' else none else none
    else none
def callO (f : Nat) (args : List PV) (H : Hp) : Option (PV × Hp) :=
  match T.natO f args H with
  | some r => some r
  | none => (findF T.fns f).bind fun F => if args.length = F.np then
      (ex F.body (env0 args) H).bind fun q => if ends q.1 then (retV q.2.1 q.2.2 F.res).map fun v => (v, q.2.2) else none
    else none
def step (c : PCode) (env : Env) (H : Hp) : Option (PX × Env × Hp) :=
  match c with
  | .skip => some (.normal, env, H)
  | .reg rs chk live => (runReg (callP T ex) (callO T ex) fzB T.meth rs chk env H).map fun q => (.normal, normE live q.1, q.2)
  | .seq a b => (ex a env H).bind fun q => match q.1 with | .normal => ex b q.2.1 q.2.2 | _ => some q
  | .cond c a b => (match ev env c with | .bool t => ex (if t then a else b) env H | _ => none)
  | .blk id c => (ex c env H).map fun q => match q.1 with | .exit i => if i = id then (.normal, q.2) else q | _ => q
  | .loop c => (ex c env H).bind fun q => match q.1 with | .normal => ex (.loop c) q.2.1 q.2.2 | _ => some q
  | .trim c => (ex c env H).bind fun q => if trimOk H.length q.2.1 q.2.2 then some (q.1, q.2.1, q.2.2.take H.length) else none
  | .rng x p a b => (rngSrc T (ev env x)).bind fun xs => rngRun ex p a b env xs H
  | .ext id => some (.exit id, env, H)
  | .ret => some (.ret, env, H)
  | .bad => none
end
def pexec (T : Table) : Nat → PCode → Env → Hp → Option (PX × Env × Hp)
  | 0, _, _, _ => none
  | n + 1, c, env, H => step T (pexec T n) c env H
def pcall (T : Table) (n : Nat) (f : Nat) (args : List PV) : Option PV := callP T (pexec T n) f args

/-! ### Which model code -/
def noRng : PCode → Bool
  | .seq a b | .cond _ a b => noRng a && noRng b
  | .blk _ a | .loop a | .trim a => noRng a
  | .rng .. => false
  | _ => true
def codeOk (P : Program) (N : Nat) : PCode → Code → Bool
  | .skip, c => (match c with | .skip => true | _ => false)
  | .reg rs chk live, c => (match c with | .region _ ops draw => ropsOk P N ops ops.toList rs && (if draw then drawOk ops rs chk || drawOk2 ops rs chk else chk.isEmpty) | _ => false)
  | .seq a b, c => (match c with | .seq a' b' => codeOk P N a a' && codeOk P N b b' | _ => false)
  | .cond x a b, c => (match c with | .cond X a' b' => opdOk X x && codeOk P N a a' && codeOk P N b b' | _ => false)
  | .blk id a, c => (match c with | .block id' a' => id' == id && codeOk P N a a' | _ => false)
  | .loop a, c => (match c with | .loop a' => codeOk P N a a' | _ => false)
  | .trim a, c => codeOk P N a c
  | .rng x p a b, c => (match c with | .rangeFunc g ps a' b' => opdOk g x && (ps.toList == [p]) && decide (p < N) && codeOk P N a a' && codeOk P N b b' && noRng a && noRng b | _ => false)
  | .ext id, c => (match c with | .exit id' => id' == id | _ => false)
  | .ret, c => (match c with | .ret => true | _ => false)
  | .bad, _ => true

def resOk (P : Program) : List ResultVar → List PRes → Bool
  | [], [] => true
  | .tmp t :: rs, .tmp t' :: rs' => t == t' && resOk P rs rs'
  | .cell t ty :: rs, .cell t' n :: rs' => t == t' && hasT P ty && n == aggN P ty && resOk P rs rs'
  | _, _ => false
def fnOk (P : Program) (f : Nat) (F : PFn) : Bool :=
  match P.funcs[f]? with
  | some fn => (fn.name != "runtime.NumGoroutine") && fn.ntmps == F.nt && decide (F.np ≤ F.nt) && resOk P fn.results.toList F.res && (match fn.body with | some c => codeOk P F.nt F.body c | none => false)
  | none => false

/-- An iterator's contract, by the list that it yields. -/
def SqOk (P : Program) (sq : Nat → List PV → Option (List Int)) : Prop :=
  ∀ g cs xs, sq g cs = some xs → FnIn P g ∧ ∀ (lb : Array Value) (l : Nat) (J : Nat → World → Prop) (Jx : World → Prop) (W : World),
    (∀ i W1, J i W1 → ∃ (K : KW) (H : Hp), K.w = W1 ∧ HRel K H ∧ RepL K cs lb.toList) →
    (∀ i W1 W2, J i W1 → Below W1.heap.size W1 W2 → J i W2) → (∀ W1 W2, Jx W1 → Below W1.heap.size W1 W2 → Jx W2) →
    (∀ i (hi : i < xs.length) W1, J i W1 → YieldAt (fc none) 0 P l #[.int .i64 xs[i]] W1 fun e W2 => (e = .returned (.bool true) ∧ J (i + 1) W2) ∨ (e = .returned (.bool false) ∧ Jx W2)) →
    J 0 W → CallsIn (fc none) 0 P g (#[.func (.yield l) #[] #[]] ++ lb) W fun e W2 => (∃ v, e = .returned v) ∧ (J xs.length W2 ∨ Jx W2)
structure TOk (P : Program) (T : Table) : Prop where
  fns : ∀ x ∈ T.fns, fnOk P x.1 x.2 = true
  nat : ∀ f args r, T.nat f args = some r → PureOk P f args r
  natO : ∀ f args H r H', T.natO f args H = some (r, H') → OpenOk P f args H r H'
  meth : MethOk P T.meth
  sq : SqOk P T.sq
  mix : P.follows .mixedOrders = true

def PX.to : PX → Exit
  | .normal => .normal
  | .exit id => .exit id
  | .ret => .ret

theorem get_noRef {k : Nat} : ∀ {env : Env}, env.all (fun x => x.2.noRef k) = true → ∀ t, (get env t).noRef k = true
  | [], _, _ => rfl
  | (j, v) :: r, h, t => by
    simp only [List.all_cons, Bool.and_eq_true] at h
    simp only [get]
    split
    · exact h.1
    · exact get_noRef h.2 t
theorem get_env0 (args : List PV) (t : Nat) : get (env0 args) t = args.getD t .undef := by
  have key : ∀ (args : List PV) (k t : Nat), get ((args.zipIdx k).map fun x => (x.2, x.1)) t = if k ≤ t then args.getD (t - k) .undef else .undef := by
    intro args
    induction args with
    | nil => intro k t; simp [get]
    | cons x xs ih =>
      intro k t
      simp only [List.zipIdx_cons, List.map_cons, get, ih]
      by_cases e : k = t
      · subst e; simp
      · rw [if_neg e]
        by_cases h : k ≤ t
        · rw [if_pos h, if_pos (by omega)]
          rw [show t - k = (t - (k + 1)) + 1 from by omega]
          simp
        · rw [if_neg h, if_neg (by omega)]
  have := key args 0 t
  simpa [env0] using this

section
variable {P : Program} {K : KW} {H : Hp} {N : Nat} {env : Env} {a : Act}

theorem run_results (hE : ERel K N env a) (hH : HRel K H) : ∀ {rs : List ResultVar} {ps : List PRes} {vs : List PV}, resOk P rs ps = true → resL env H ps = some vs →
    ∃ l : List Value, (rs.mapM (fun (x : ResultVar) => (match x with | .tmp t => Pure.pure (a.tmps.getD t Go.undef) | .cell x t => (do loadVar t (← asAddr (a.tmps.getD x Go.undef))) : Sem Value))).run P K.w = Result.ok l K.w ∧ RepL K vs l
  | [], [], vs, _, h => by
    simp only [resL, Option.some.injEq] at h
    subst h
    exact ⟨[], rfl, rfl⟩
  | [], _ :: _, _, h, _ => by simp [resOk] at h
  | .tmp _ :: _, [], _, h, _ => by simp [resOk] at h
  | .cell _ _ :: _, [], _, h, _ => by simp [resOk] at h
  | .tmp t :: rs, .tmp t' :: ps, vs, h, he => by
    simp only [resOk, Bool.and_eq_true, beq_iff_eq] at h
    obtain ⟨rfl, h⟩ := h
    simp only [resL, resV, Option.bind_some, Option.map_eq_some_iff] at he
    obtain ⟨vs', hv, rfl⟩ := he
    obtain ⟨l, hl, hr⟩ := run_results hE hH h hv
    refine ⟨a.tmps.getD t Go.undef :: l, ?_, ⟨_, _, rfl, hE.slot t, hr⟩⟩
    simp only [List.mapM_cons, Sem.run_bind, Sem.run_pure, Result.andThen_ok, hl]
  | .tmp _ :: _, .cell _ _ :: _, _, h, _ => by simp [resOk] at h
  | .cell _ _ :: _, .tmp _ :: _, _, h, _ => by simp [resOk] at h
  | .cell x ty :: rs, .cell x' n :: ps, vs, h, he => by
    simp only [resOk, Bool.and_eq_true, beq_iff_eq] at h
    obtain ⟨⟨⟨rfl, h1⟩, h2⟩, h3⟩ := h
    simp only [resL, resV, Option.bind_eq_some_iff, Option.map_eq_some_iff] at he
    obtain ⟨v, hv, vs', hvs, rfl⟩ := he
    obtain ⟨l, hl, hr⟩ := run_results hE hH h3 hvs
    have hx := hE.slot x
    have hrun : ∃ u, (do loadVar ty (← asAddr (a.tmps.getD x Go.undef)) : Sem Value).run P K.w = .ok u K.w ∧ Rep K v u := by
      generalize get env x = px at hv hx
      cases px <;> simp only [evLd, reduceCtorEq] at hv
      case pptr bor xs off =>
        obtain ⟨_, _, g, oo, hv', _, hrow⟩ := hx
        obtain ⟨u, hu, hru⟩ := run_loadVar_pv h1 hrow h2 hv
        exact ⟨u, by simp only [Sem.run_bind, hv', asAddr, Sem.run_pure, Result.andThen_ok, hu], hru⟩
      case mptr b gen off =>
        obtain ⟨g, nn, hm, hv'⟩ := hx
        split at hv
        case h_2 => cases hv
        rename_i B hB
        split at hv
        case isFalse => cases hv
        rename_i hg
        subst hg
        obtain ⟨u, hu, hru⟩ := run_loadVar_pv h1 (hH.row hB hm) h2 hv
        rw [Nat.zero_add] at hu
        exact ⟨u, by simp only [Sem.run_bind, hv', asAddr, Sem.run_pure, Result.andThen_ok, hu], hru⟩
    obtain ⟨u, hu, hru⟩ := hrun
    refine ⟨u :: l, ?_, ⟨_, _, rfl, hru, hr⟩⟩
    simp only [List.mapM_cons, Sem.run_bind] at hu ⊢
    simp only [hu, Sem.run_pure, Result.andThen_ok, hl]

theorem run_retV (hE : ERel K N env a) (hH : HRel K H) {fn : Func} {ps : List PRes} {v : PV} (hok : resOk P fn.results.toList ps = true) (he : retV env H ps = some v) : ∃ rv, (results fn a.tmps).run P K.w = .ok rv K.w ∧ Rep K v rv := by
  unfold retV at he
  rw [Option.map_eq_some_iff] at he
  obtain ⟨vs, hvs, hv⟩ := he
  obtain ⟨l, hl, hr⟩ := run_results hE hH hok hvs
  have hrun : (results fn a.tmps).run P K.w = .ok (if h : l.toArray.size = 1 then l.toArray[0] else .tuple l.toArray) K.w := by
    unfold results
    rw [Array.mapM_eq_mapM_toList]
    simp only [Sem.run_bind, Sem.run_map]
    erw [hl]
    rfl
  refine ⟨_, hrun, ?_⟩
  subst hv
  have hlen := hr.length
  by_cases h1 : l.length = 1
  · obtain ⟨u, rfl⟩ := List.length_eq_one_iff.1 h1
    obtain ⟨x, rfl⟩ := List.length_eq_one_iff.1 (hlen.trans h1)
    obtain ⟨_, _, e, hx, _⟩ := hr
    simp only [List.cons.injEq] at e
    rw [← e.1] at hx
    simpa using hx
  · rw [dif_neg (by simpa using h1)]
    have : (match vs with | [v] => v | vs => PV.tup vs) = .tup vs := by
      match vs, hlen with
      | [], _ => rfl
      | [x], h => exact absurd h.symm h1
      | _ :: _ :: _, _ => rfl
    rw [this]
    exact ⟨_, rfl, by simpa using hr⟩

/-- The marks of ranges over functions that are behind. -/
def MarksL (B : Nat) (K : KW) : List Deferred → Prop
  | [] => True
  | d :: ds => (∃ D, d.target = .collected D ∧ B ≤ D ∧ K.w.heap[D]? = some (.deferred (some [])) ∧ ¬ K.Z D ∧ ¬ K.Y D ∧ ∀ d' ∈ ds, d'.target ≠ .collected D) ∧ MarksL B K ds
def Marks (B : Nat) (K : KW) (ds : List Deferred) : Prop := B ≤ K.w.heap.size ∧ MarksL B K ds
theorem HRel.notCells {K : KW} {H : Hp} (hH : HRel K H) {g : Nat} {o : Obj} (hg : K.w.heap[g]? = some o) (ho : ∀ c e f, o ≠ .cells c e f) (hom : ∀ es c, o ≠ .map es c) : ¬ Live K H g := by
  rintro ⟨b, B, n, hb, hm⟩
  rcases hH.blk b B hb with ⟨_, _, hn⟩ | ⟨m, g', es, cl, _, _, _, hm', hh, _⟩ | ⟨g', cur, _, hm', hh, _⟩
  · rw [hm] at hn; cases hn
  · rw [hm] at hm'
    obtain ⟨rfl, _⟩ : g = g' ∧ n = 0 := by simpa using hm'
    rw [hg, Option.some.injEq] at hh
    exact hom _ _ hh
  · rw [hm] at hm'
    obtain ⟨rfl, _⟩ : g = g' ∧ n = cur.size := by simpa using hm'
    rw [hg, Option.some.injEq] at hh
    exact ho _ _ _ hh
theorem MarksL.ext {B : Nat} {K K' : KW} {H H' : Hp} (hH : HRel K H) (hX : Ext K H K' H') : ∀ {ds : List Deferred}, MarksL B K ds → MarksL B K' ds
  | [], _ => trivial
  | d :: ds, ⟨⟨D, h1, h2, h3, h4, h5, h6⟩, h⟩ => by
    have hlt := (Array.getElem?_eq_some_iff.1 h3).1
    refine ⟨⟨D, h1, h2, (hX.frame D hlt (hH.notCells h3 (by intro c e f q; cases q) (by intro es c q; cases q))).trans h3, fun q => ?_, fun q => h5 (hX.yb D q), h6⟩, MarksL.ext hH hX h⟩
    rcases hX.zb D q with q | q
    · exact h4 q
    · omega
theorem Marks.ext {B : Nat} {K K' : KW} {H H' : Hp} (hH : HRel K H) (hX : Ext K H K' H') {ds : List Deferred} (h : Marks B K ds) : Marks B K' ds := ⟨Nat.le_trans h.1 hX.le.size, h.2.ext hH hX⟩
/-- A block that no value leans on becomes another object. -/
def KW.putO (K : KW) (r : Nat) (o : Obj) : KW := ⟨K.w.putObj r o, K.Z, K.Y, K.μ⟩
theorem KW.putO_le {K : KW} {r : Nat} {o : Obj} (hz : ¬ K.Z r) (hy : ¬ K.Y r) (hnm : ∀ es c, K.w.heap[r]? ≠ some (.map es c)) : K.Le (K.putO r o) :=
  ⟨rfl, rfl, rfl, by simp [KW.putO], fun g hg => World.putObj_heap_other (by rintro rfl; exact hg.elim hz hy), fun _ h => h, fun _ h => h, fun _ _ _ h => h, MapsKeep.of_same fun g es c hg => World.putObj_heap_other (by rintro rfl; exact hnm es c hg)⟩
theorem HRel.putO {K : KW} {H : Hp} (hH : HRel K H) {r : Nat} {o o0 : Obj} (hz : ¬ K.Z r) (hy : ¬ K.Y r) (hr : K.w.heap[r]? = some o0) (ho : ∀ c e f, o0 ≠ .cells c e f) (hom : ∀ es c, o0 ≠ .map es c) : HRel (K.putO r o) H := by
  have hle := KW.putO_le (o := o) hz hy (by rw [hr]; intro es c q; exact hom es c (Option.some.inj q))
  refine ⟨?_, hH.inj, hH.fresh, fun g hg => by simpa [KW.putO] using hH.lt g hg⟩
  intro b B hb
  rcases hH.blk b B hb with h | ⟨m, g, es, cl, hx, hp, hg0, hm, hh, hz', hy', hmp⟩ | ⟨g, cur, hp, hm, hh, hz', hy', hl, hrr, h1⟩
  · exact .inl h
  · have hne : g ≠ r := by
      rintro rfl
      rw [hr, Option.some.injEq] at hh
      exact hom _ _ hh
    exact .inr <| .inl ⟨m, g, es, cl, hx, hp, hg0, hm, (World.putObj_heap_other hne).trans hh, hz', hy', hmp.mono hle⟩
  · have hne : g ≠ r := by
      rintro rfl
      rw [hr, Option.some.injEq] at hh
      exact ho _ _ _ hh
    exact .inr <| .inr ⟨g, cur, hp, hm, (World.putObj_heap_other hne).trans hh, hz', hy', hl, hrr.mono hle, h1⟩
theorem Ext.putO {K0 K : KW} {H0 H : Hp} (hX : Ext K0 H0 K H) {r : Nat} {o : Obj} (hz : ¬ K.Z r) (hy : ¬ K.Y r) (hr : K0.w.heap.size ≤ r) (hnm : ∀ es c, K.w.heap[r]? ≠ some (.map es c)) : Ext K0 H0 (K.putO r o) H :=
  ⟨hX.le.trans (KW.putO_le hz hy hnm), fun g hg hl => (World.putObj_heap_other (by omega)).trans (hX.frame g hg hl), hX.live, hX.zb, hX.yb⟩
theorem HRel.grow0 {K : KW} {H : Hp} (hH : HRel K H) {w' : World} (hb : Below K.w.heap.size K.w w') : HRel ⟨w', K.Z, K.Y, K.μ⟩ H ∧ Ext K H ⟨w', K.Z, K.Y, K.μ⟩ H := by
  have hle : K.Le ⟨w', K.Z, K.Y, K.μ⟩ := ⟨hb.os, hb.tape, hb.output, hb.size, fun g hg => hb.block g (hH.lt g hg), fun g hg => hg, fun g hg => hg, fun _ _ _ h => h, MapsKeep.of_same fun g _ _ hg => hb.block g (Array.getElem?_eq_some_iff.1 hg).1⟩
  refine ⟨⟨?_, hH.inj, hH.fresh, fun g hg => Nat.lt_of_lt_of_le (hH.lt g hg) hb.size⟩, hle, fun g hg _ => hb.block g hg, fun g hg => .inl hg, fun g hg => .inl hg, fun g hg => hg⟩
  intro b B hB
  rcases hH.blk b B hB with h | ⟨m, g, es, cl, hx, hp, hg0, hm, hh, hz, hy, hmp⟩ | ⟨g, cur, hp, hm, hh, hz, hy, hl, hr, h1⟩
  · exact .inl h
  · exact .inr <| .inl ⟨m, g, es, cl, hx, hp, hg0, hm, (hb.block g (Array.getElem?_eq_some_iff.1 hh).1).trans hh, hz, hy, hmp.mono hle⟩
  · exact .inr <| .inr ⟨g, cur, hp, hm, (hb.block g (Array.getElem?_eq_some_iff.1 hh).1).trans hh, hz, hy, hl, hr.mono hle, h1⟩

theorem MarksL.same {B : Nat} {K K' : KW} (hw : K'.w = K.w) (hz : K'.Z = K.Z) (hy : K'.Y = K.Y) : ∀ {ds : List Deferred}, MarksL B K ds → MarksL B K' ds
  | [], _ => trivial
  | d :: ds, ⟨⟨D, h1, h2, h3, h4, h5, h6⟩, h⟩ => ⟨⟨D, h1, h2, by rw [hw]; exact h3, by rw [hz]; exact h4, by rw [hy]; exact h5, h6⟩, MarksL.same hw hz hy h⟩
theorem Marks.same {B : Nat} {K K' : KW} (hw : K'.w = K.w) (hz : K'.Z = K.Z) (hy : K'.Y = K.Y) {ds : List Deferred} (h : Marks B K ds) : Marks B K' ds := ⟨by rw [hw]; exact h.1, h.2.same hw hz hy⟩
/-- What a code's soundness says. -/
def ExOk (P : Program) (ex : PCode → Env → Hp → Option (PX × Env × Hp)) : Prop :=
  ∀ (ro : Option Nat) (B N : Nat) (pc : PCode) (c : Code) (K : KW) (H : Hp) (env : Env) (a : Act) (x : PX) (env' : Env) (H' : Hp), (ro = none ∨ noRng pc = true) → codeOk P N pc c = true → HRel K H → ERel K N env a → Marks B K a.defers → ex pc env H = some (x, env', H') →
    ∀ (Q : Exit → Act → World → Prop), (∀ K' a', Ext K H K' H' → HRel K' H' → ERel K' N env' a' → Marks B K' a'.defers → Q x.to a' K'.w) → c.wpIn (fc ro) 0 P Q a K.w

theorem findF_mem : ∀ {l : List (Nat × PFn)} {f : Nat} {F : PFn}, findF l f = some F → (f, F) ∈ l
  | [], _, _, h => by simp [findF] at h
  | (k, G) :: l, f, F, h => by
    simp only [findF] at h
    split at h
    · rename_i e
      simp at h
      subst e; subst h
      simp
    · exact List.mem_cons_of_mem _ (findF_mem h)

theorem fnOk_spec {f : Nat} {F : PFn} (h : fnOk P f F = true) : ∃ fn c, P.funcs[f]? = some fn ∧ fn.body = some c ∧ FnIn P f ∧ fn.ntmps = F.nt ∧ F.np ≤ F.nt ∧ resOk P fn.results.toList F.res = true ∧ codeOk P F.nt F.body c = true := by
  unfold fnOk at h
  split at h
  case h_2 => cases h
  rename_i fn hfn
  simp only [Bool.and_eq_true, bne_iff_ne, ne_eq, beq_iff_eq, decide_eq_true_eq] at h
  obtain ⟨⟨⟨⟨h1, h2⟩, h3⟩, h4⟩, h5⟩ := h
  split at h5
  case h_2 => cases h5
  rename_i c hc
  exact ⟨fn, c, hfn, hc, ⟨fn, hfn, by simpa using h1, by rw [hc]; rfl⟩, h2, h3, h4, h5⟩

theorem erel_enter {K : KW} {args : List PV} {vs : Array Value} {nt np : Nat} (ha : RepL K args vs.toList) (hl : args.length = np) (hn : np ≤ nt) : ERel K nt (env0 args) { tmps := vs ++ Array.replicate (nt - vs.size) Go.undef, defers := [] } := by
  have hvs : vs.size = np := by have := ha.length; simp at this; omega
  refine ⟨by simp [hvs]; omega, fun t => ?_⟩
  rw [get_env0]
  by_cases ht : t < args.length
  · obtain ⟨v, hv, hr⟩ := ha.get t _ (List.getElem?_eq_getElem ht)
    have hv' : vs[t]? = some v := by simpa using hv
    simp only [List.getD_eq_getElem?_getD, List.getElem?_eq_getElem ht, Option.getD_some, Array.getD_eq_getD_getElem?, Array.getElem?_append]
    rw [if_pos (by omega), hv']
    exact hr
  · simp only [List.getD_eq_getElem?_getD, List.getElem?_eq_none (Nat.le_of_not_lt ht), Option.getD_none]
    trivial

theorem Ext.below {K : KW} {w : World} {Z Y : Nat → Prop} (h : Ext ⟨w, Z, Y, noMu⟩ [] K H) : Below w.heap.size w K.w :=
  ⟨h.le.os, h.le.tape, h.le.output, h.le.size, fun k hk => h.frame k hk (by rintro ⟨b, B, n, hb, _⟩; simp at hb)⟩

theorem hrel_nil (w : World) (Z Y : Nat → Prop) (h : ∀ g, Z g ∨ Y g → g < w.heap.size) : HRel ⟨w, Z, Y, noMu⟩ [] :=
  ⟨by simp, by simp, fun _ _ _ => rfl, h⟩

variable {T : Table} {ex : PCode → Env → Hp → Option (PX × Env × Hp)}

theorem leaves_marks {R : Ending → World → Prop} {fn : Func} {K0 : KW} {H0 : Hp} {N : Nat} {env : Env} {a : Act} {H : Hp} :
    ∀ (ds : List Deferred) (K : KW), MarksL K0.w.heap.size K ds → Ext K0 H0 K H → HRel K H → ERel K N env a →
      (∀ K', Ext K0 H0 K' H → HRel K' H → ERel K' N env a → ∃ v, (results fn a.tmps).run P K'.w = .ok v K'.w ∧ R (.returned v) K'.w) → LeavesInM (fc none) 0 P fn a.tmps R ds .returning K.w
  | [], K, _, hX, hH, hE, h => h K hX hH hE
  | d :: ds, K, ⟨⟨D, h1, h2, h3, h4, h5, h6⟩, hm⟩, hX, hH, hE, h => by
    refine ⟨by simp, .inl ⟨D, _, h1, run_takeDeferred h3, ?_⟩⟩
    have hle := KW.putO_le (o := .deferred none) h4 h5 (by rw [h3]; intro es c q; cases q)
    have key : ∀ ds : List Deferred, (∀ d' ∈ ds, d'.target ≠ .collected D) → MarksL K0.w.heap.size K ds → MarksL K0.w.heap.size (K.putO D (.deferred none)) ds := by
      intro ds
      induction ds with
      | nil => intro _ _; trivial
      | cons e es ih =>
        rintro hne ⟨⟨D', g1, g2, g3, g4, g5, g6⟩, hm'⟩
        refine ⟨⟨D', g1, g2, (World.putObj_heap_other ?_).trans g3, g4, g5, g6⟩, ih (fun d' hd' => hne d' (List.mem_cons_of_mem _ hd')) hm'⟩
        rintro rfl
        exact hne e (by simp) g1
    exact leaves_marks ds (K.putO D (.deferred none)) (key ds h6 hm) (hX.putO h4 h5 h2 (by rw [h3]; intro es c q; cases q)) (hH.putO h4 h5 h3 (by intro c e f q; cases q) (by intro es c q; cases q)) (hE.mono hle) h
theorem ends_post {R : Ending → World → Prop} {fn : Func} {x : PX} {a' : Act} {w' : World} (hx : ends x = true) (h : LeavesInM (fc none) 0 P fn a'.tmps R a'.defers .returning w') : bodyPostM (fc none) 0 P fn R x.to a' w' := by
  cases x <;> simp [ends] at hx <;> exact h

theorem callP_ok (hT : TOk P T) (hex : ExOk P ex) (f : Nat) (args : List PV) (r : PV) (he : callP T ex f args = some r) : PureOk P f args r := by
  unfold callP at he
  split at he
  · rename_i r' hr
    simp only [Option.some.injEq] at he
    subst he
    exact hT.nat f args r' hr
  · simp only [Option.bind_eq_some_iff] at he
    obtain ⟨F, hF, he⟩ := he
    split at he
    case isFalse => cases he
    rename_i hnp
    simp only [Option.bind_eq_some_iff] at he
    obtain ⟨⟨x, env', H'⟩, hx, he⟩ := he
    split at he
    case isFalse => cases he
    rename_i hends
    simp only [Option.bind_eq_some_iff] at he
    obtain ⟨v, hv, v', hfr, he⟩ := he
    split at he
    case isFalse => cases he
    rename_i hcl
    simp only [Option.some.injEq] at he
    subst he
    obtain ⟨fn, c, hfn, hb, hin, hnt, hle, hres, hcode⟩ := fnOk_spec (hT.fns _ (findF_mem hF))
    refine ⟨hin, fun w Z Y vs hlt ha => ?_⟩
    refine callsIn_wide.1 (callsIn_of_wp_marks (F := fc none) (n := 0) hfn hb trivial ?_)
    have hE := erel_enter ha hnp hle
    rw [← hnt] at hE
    refine hex none w.heap.size F.nt F.body c ⟨w, Z, Y, noMu⟩ [] (env0 args) _ x env' H' (.inl rfl) hcode (hrel_nil w Z Y hlt) (by rw [hnt] at hE; rw [hnt]; exact hE) ⟨Nat.le_refl _, (show MarksL _ _ [] from trivial)⟩ hx _ (fun K1 a1 hX1 hH1 hE11 hM1 => ?_)
    refine ends_post hends (leaves_marks (K0 := ⟨w, Z, Y, noMu⟩) (H0 := []) a1.defers K1 hM1.2 hX1 hH1 hE11 fun K1 hX hH hE1 => ?_)
    obtain ⟨rv, hrv, hrep⟩ := run_retV hE1 hH hres hv
    refine ⟨rv, hrv, rv, rfl, hX.below, ?_⟩
    have hlive : ∀ g, Live K1 H' g → w.heap.size ≤ g ∧ g < K1.w.heap.size := fun g hg => ⟨(hX.live g hg).elim (by rintro ⟨b, B, n, hb, _⟩; simp at hb) id, hH.live_lt hg⟩
    obtain ⟨h1, h2⟩ := frz_spec (K' := ⟨K1.w, fun g => Z g ∨ (w.heap.size ≤ g ∧ g < K1.w.heap.size), Y, noMu⟩) (.inr rfl) hH rfl
      (fun g hg => (hX.zb g hg).imp id (fun q => ⟨q, hH.lt g (.inl hg)⟩)) (fun g hg => .inr (hX.yb g hg)) (fun g hg => .inl (.inr (hlive g hg))) 64 v v' rv hfr hrep
    exact ⟨Rep.clean_of v' rv h1 hcl, h1⟩

theorem callO_ok (hT : TOk P T) (hex : ExOk P ex) (f : Nat) (args : List PV) (H : Hp) (r : PV) (H' : Hp) (he : callO T ex f args H = some (r, H')) : OpenOk P f args H r H' := by
  unfold callO at he
  split at he
  · rename_i r' hr
    simp only [Option.some.injEq] at he
    subst he
    exact hT.natO f args H _ _ hr
  · simp only [Option.bind_eq_some_iff] at he
    obtain ⟨F, hF, he⟩ := he
    split at he
    case isFalse => cases he
    rename_i hnp
    simp only [Option.bind_eq_some_iff] at he
    obtain ⟨⟨x, env', H1⟩, hx, he⟩ := he
    split at he
    case isFalse => cases he
    rename_i hends
    simp only [Option.map_eq_some_iff, Prod.mk.injEq] at he
    obtain ⟨v, hv, rfl, rfl⟩ := he
    obtain ⟨fn, c, hfn, hb, hin, hnt, hle, hres, hcode⟩ := fnOk_spec (hT.fns _ (findF_mem hF))
    refine ⟨hin, fun K vs hH ha => ?_⟩
    refine callsIn_wide.1 (callsIn_of_wp_marks (F := fc none) (n := 0) hfn hb trivial ?_)
    have hE := erel_enter ha hnp hle
    refine hex none K.w.heap.size F.nt F.body c K H (env0 args) _ x env' H1 (.inl rfl) hcode hH (by rw [hnt]; exact hE) ⟨Nat.le_refl _, (show MarksL _ _ [] from trivial)⟩ hx _ (fun K1 a1 hX1 hH11 hE11 hM1 => ?_)
    refine ends_post hends (leaves_marks (K0 := K) (H0 := H) a1.defers K1 hM1.2 hX1 hH11 hE11 fun K1 hX hH1 hE1 => ?_)
    obtain ⟨rv, hrv, hrep⟩ := run_retV hE1 hH1 hres hv
    exact ⟨rv, hrv, rv, K1, rfl, rfl, hX, hH1, hrep⟩

theorem ERel.norm {K : KW} {N : Nat} {env : Env} {a : Act} (h : ERel K N env a) (live : List Nat) : ERel K N (normE live env) a := ⟨h.size, fun t => by
  rw [get_normE]
  split
  · exact h.slot t
  · trivial⟩

theorem trim_ok {K K' : KW} {H H' : Hp} {N : Nat} {env : Env} {a : Act} (hH : HRel K H) (hX : Ext K H K' H') (hH' : HRel K' H') (hE : ERel K' N env a) (ht : trimOk H.length env H' = true) :
    ∃ K2, K2.w = K'.w ∧ Ext K H K2 (H'.take H.length) ∧ HRel K2 (H'.take H.length) ∧ ERel K2 N env a ∧ K2.Z = K'.Z ∧ K2.Y = K'.Y := by
  simp only [trimOk, Bool.and_eq_true] at ht
  obtain ⟨ht1, ht2⟩ := ht
  have hget : ∀ b B, (H'.take H.length)[b]? = some B → b < H.length ∧ H'[b]? = some B := by
    intro b B hb
    rw [List.getElem?_take] at hb
    split at hb
    · exact ⟨by assumption, hb⟩
    · cases hb
  refine ⟨⟨K'.w, K'.Z, K'.Y, fun b gen => if b < H.length then K'.μ b gen else none⟩, rfl, ⟨⟨hX.le.os, hX.le.tape, hX.le.output, hX.le.size, hX.le.keep, hX.le.z, hX.le.y, ?_, hX.le.maps⟩, hX.frame, ?_, hX.zb, hX.yb⟩, ⟨?_, ?_, ?_, hH'.lt⟩, ⟨hE.size, fun t => Rep.trim _ _ (get_noRef ht1 t) (hE.slot t)⟩, rfl, rfl⟩
  · intro b n p hp
    have hb : b < H.length := by
      apply Classical.byContradiction
      intro hno
      rw [hH.fresh b n (fun B hB => by rw [List.getElem?_eq_none (by omega)] at hB; cases hB)] at hp
      cases hp
    simp only [if_pos hb]
    exact hX.le.mu b n p hp
  · rintro g ⟨b, B, n, hb, hm⟩
    obtain ⟨h1, h2⟩ := hget b B hb
    simp only [if_pos h1] at hm
    exact hX.live g ⟨b, B, n, h2, hm⟩
  · intro b B hb
    obtain ⟨h1, h2⟩ := hget b B hb
    simp only [if_pos h1]
    have hnB := List.all_eq_true.1 ht2 B (List.mem_of_getElem? hb)
    rcases hH'.blk b B h2 with h | ⟨m, g, es, cl, hx, hp, hg0, hm, hh, hz, hy, hk2, hst2, es', hpm2, hks2, hvs2⟩ | ⟨g, cur, hp, hm, hh, hz, hy, hl, hr, h3⟩
    · exact .inl h
    · exact .inr <| .inl ⟨m, g, es, cl, hx, hp, hg0, hm, hh, hz, hy, hk2, hst2, es', hpm2, hks2, RepL.trim _ _ (Blk.nr_mp hnB hp) hvs2⟩
    · exact .inr <| .inr ⟨g, cur, hp, hm, hh, hz, hy, hl, RepL.trim _ _ (Blk.nr_xs hnB) hr, h3⟩
  · intro b b' B B' g n n' hb hb' hm hm'
    obtain ⟨h1, h2⟩ := hget b B hb
    obtain ⟨h1', h2'⟩ := hget b' B' hb'
    simp only [if_pos h1] at hm
    simp only [if_pos h1'] at hm'
    exact hH'.inj b b' B B' g n n' h2 h2' hm hm'
  · intro b gen hgn
    by_cases hb : b < H.length
    · simp only [if_pos hb]
      exact hH'.fresh b gen (fun B hB => hgn B (by rw [List.getElem?_take, if_pos hb]; exact hB))
    · simp only [if_neg hb]

theorem MarksL.putO {B : Nat} {K : KW} {r : Nat} {o : Obj} (hr : r < B) : ∀ {ds : List Deferred}, MarksL B K ds → MarksL B (K.putO r o) ds
  | [], _ => trivial
  | d :: ds, ⟨⟨D, h1, h2, h3, h4, h5, h6⟩, h⟩ => ⟨⟨D, h1, h2, (World.putObj_heap_other (by omega)).trans h3, h4, h5, h6⟩, MarksL.putO hr h⟩
theorem rngRun_cons {ex : PCode → Env → Hp → Option (PX × Env × Hp)} {p : Nat} {pa pb : PCode} {env : Env} {i : Int} {is : List Int} {H : Hp} {r : PX × Env × Hp} (h : rngRun ex p pa pb env (i :: is) H = some r) :
    ∃ e1 H1 y e2 H2, ex pa ((p, .int .i64 i) :: env) H = some (.normal, e1, H1) ∧ ex pb e1 H1 = some (y, e2, H2) ∧ ((y = .normal ∧ rngRun ex p pa pb env is H2 = some r) ∨ (y ≠ .normal ∧ r = (y, env, H2))) := by
  simp only [rngRun, Option.bind_eq_some_iff] at h
  obtain ⟨⟨x, e1, H1⟩, h1, h⟩ := h
  cases x with
  | normal =>
    simp only [Option.bind_eq_some_iff] at h
    obtain ⟨⟨y, e2, H2⟩, h2, h⟩ := h
    refine ⟨e1, H1, y, e2, H2, h1, h2, ?_⟩
    cases y with
    | normal => exact .inl ⟨rfl, h⟩
    | exit id => simp only [Option.some.injEq] at h; exact .inr ⟨by simp, h.symm⟩
    | ret => simp only [Option.some.injEq] at h; exact .inr ⟨by simp, h.symm⟩
  | exit id => cases h
  | ret => cases h
def PX.code : PX → Option Code
  | .normal => none
  | .exit id => some (.exit id)
  | .ret => some .ret
theorem rng_ok (hT : TOk P T) (hex : ExOk P ex) {B N : Nat} {q : POpd} {p : Nat} {pa pb : PCode} {g : Operand} {ps : Array Tmp} {a' b' : Code} {K : KW} {H : Hp} {env : Env} {a : Act} {x : PX} {env' : Env} {H' : Hp}
    (hok : (opdOk g q && (ps.toList == [p]) && decide (p < N) && codeOk P N pa a' && codeOk P N pb b' && noRng pa && noRng pb) = true) (hH : HRel K H) (hE : ERel K N env a) (hM : Marks B K a.defers)
    (he : ((rngSrc T (ev env q)).bind fun xs => rngRun ex p pa pb env xs H) = some (x, env', H')) (Q : Exit → Act → World → Prop)
    (hQ : ∀ K' a', Ext K H K' H' → HRel K' H' → ERel K' N env' a' → Marks B K' a'.defers → Q x.to a' K'.w) : (Code.rangeFunc g ps a' b').wpIn (fc none) 0 P Q a K.w := by
  simp only [Bool.and_eq_true, beq_iff_eq, decide_eq_true_eq] at hok
  obtain ⟨⟨⟨⟨⟨⟨hg, hps⟩, hpN⟩, hca⟩, hcb⟩, hna⟩, hnb⟩ := hok
  obtain rfl : ps = #[p] := by apply Array.ext'; rw [hps]
  rw [Option.bind_eq_some_iff] at he
  obtain ⟨xs, hxs, he⟩ := he
  have hgr := opd_rep hE hg
  unfold rngSrc at hxs
  split at hxs
  case h_2 => cases hxs
  rename_i gf cs hv
  rw [hv] at hgr
  obtain ⟨fs', cs', hgv, hfs, hcs⟩ := hgr
  have hfs0 : fs' = #[] := by
    have := hfs.length
    exact Array.eq_empty_of_size_eq_zero (by simpa using this.symm)
  subst hfs0
  obtain ⟨hin, hseq⟩ := hT.sq gf cs xs hxs
  refine wpIn_rangeFunc ?_
  intro fn hfn
  obtain ⟨rec, hrec⟩ : ∃ rec : LoopState → Option Code → Loop, rec = fun st pe => { state := st, pending := pe, fn, tmps := a.tmps, params := #[p], assign := a', body := b', defers := K.w.heap.size } := ⟨_, rfl⟩
  obtain ⟨W1, hW1⟩ : ∃ W1, (K.w.alloc (.deferred (some []))).alloc (.loop (rec .ready none)) = W1 := ⟨_, rfl⟩
  have hL1 : W1.heap[K.w.heap.size + 1]? = some (.loop (rec .ready none)) := by
    rw [← hW1]; have := World.alloc_heap_new (K.w.alloc (.deferred (some []))) (.loop (rec .ready none)); rwa [World.size_alloc] at this
  have hD1 : W1.heap[K.w.heap.size]? = some (.deferred (some [])) := by
    rw [← hW1]; exact (Below.heap_alloc _ _ _ (by simp)).trans (World.alloc_heap_new K.w _)
  have hb1 : Below K.w.heap.size K.w W1 := by
    rw [← hW1]; exact ((Below.refl _ K.w).alloc (Nat.le_refl _) _).alloc (by simp) _
  obtain ⟨hH1, hX1⟩ := hH.grow0 hb1
  have hlt0 : ∀ k, K.Z k ∨ K.Y k → k < K.w.heap.size := hH.lt
  -- what is so between two rounds, and behind a round that has left
  obtain ⟨J, hJ⟩ : ∃ J : Nat → World → Prop, J = fun i W => ∃ K2 H2, K2.w = W ∧ Ext K H K2 H2 ∧ HRel K2 H2 ∧ W.heap[K.w.heap.size + 1]? = some (.loop (rec .ready none)) ∧ W.heap[K.w.heap.size]? = some (.deferred (some [])) ∧
      ¬ K2.Z K.w.heap.size ∧ ¬ K2.Z (K.w.heap.size + 1) ∧ rngRun ex p pa pb env (xs.drop i) H2 = some (x, env', H') := ⟨_, rfl⟩
  obtain ⟨Jx, hJx⟩ : ∃ Jx : World → Prop, Jx = fun W => ∃ K2, K2.w = W ∧ Ext K H K2 H' ∧ HRel K2 H' ∧ W.heap[K.w.heap.size + 1]? = some (.loop (rec .done x.code)) ∧ W.heap[K.w.heap.size]? = some (.deferred (some [])) ∧
      ¬ K2.Z K.w.heap.size ∧ ¬ K2.Z (K.w.heap.size + 1) ∧ env' = env ∧ x ≠ .normal := ⟨_, rfl⟩
  have ynot : ∀ {K2 : KW} {H2 : Hp}, Ext K H K2 H2 → ¬ K2.Y K.w.heap.size ∧ ¬ K2.Y (K.w.heap.size + 1) := fun hX => ⟨fun y => by have := hlt0 _ (.inr (hX.yb _ y)); omega, fun y => by have := hlt0 _ (.inr (hX.yb _ y)); omega⟩
  have hget : ∀ {W W' : World} {k : Nat} {o : Obj}, Below W.heap.size W W' → W.heap[k]? = some o → W'.heap[k]? = some o := fun hb hk => (hb.block _ (Array.getElem?_eq_some_iff.1 hk).1).trans hk
  have zkeep : ∀ {K2 K3 : KW} {H2 H3 : Hp} {k : Nat} {o : Obj}, Ext K2 H2 K3 H3 → K2.w.heap[k]? = some o → ¬ K2.Z k → ¬ K3.Z k := fun hX hk hz hz3 => by
    have hk' := (Array.getElem?_eq_some_iff.1 hk).1
    rcases hX.zb _ hz3 with h | h
    · exact hz h
    · omega
  refine ⟨K.w.heap.size + 1, [{ target := .collected K.w.heap.size, args := #[] }], W1, { target := .fn (.func gf) cs', args := #[.func (.yield (K.w.heap.size + 1)) #[] #[]] }, W1, gf,
    #[.func (.yield (K.w.heap.size + 1)) #[] #[]] ++ cs', W1, ?_, ?_, fun _ _ => trivial, ?_, (fun h => by cases h), ?_⟩
  · rw [← hW1, hrec]; exact run_enterLoop_outer _ _ _ _ _
  · simp only [resolve, hgv]
    simp [go_sem]
  · simp [invoke, go_sem, run_callFunc_in hin]
  refine (hseq cs' (K.w.heap.size + 1) J Jx W1 ?_ ?_ ?_ ?_ ?_).mono ?_
  · intro i W hj
    rw [hJ] at hj
    obtain ⟨K2, H2, hw, hX, hH2, _⟩ := hj
    exact ⟨K2, H2, hw, hH2, hcs.mono hX.le⟩
  · intro i W W' hj hb
    rw [hJ] at hj ⊢
    obtain ⟨K2, H2, rfl, hX, hH2, hl, hd, hz1, hz2, hr⟩ := hj
    obtain ⟨hH3, hX3⟩ := hH2.grow0 hb
    exact ⟨_, H2, rfl, hX.trans hX3, hH3, hget hb hl, hget hb hd, hz1, hz2, hr⟩
  · intro W W' hj hb
    rw [hJx] at hj ⊢
    obtain ⟨K2, rfl, hX, hH2, hl, hd, hz1, hz2, hr⟩ := hj
    obtain ⟨hH3, hX3⟩ := hH2.grow0 hb
    exact ⟨_, rfl, hX.trans hX3, hH3, hget hb hl, hget hb hd, hz1, hz2, hr⟩
  · intro i hi W hj
    rw [hJ] at hj
    obtain ⟨K2, H2, rfl, hX, hH2, hl, hd, hz1, hz2, hr⟩ := hj
    rw [List.drop_eq_getElem_cons hi] at hr
    obtain ⟨e1, H3, y, e2, H4, hr1, hr2, hr3⟩ := rngRun_cons hr
    have hy := run_yield (P := P) (args := #[.int .i64 xs[i]]) hl (by rw [hrec]; rfl)
    rw [hrec] at hy
    refine ⟨fn, _, a', b', hy, roundIn_of_wpIn hfn ?_⟩
    have hE2 : ERel K2 N ((p, PV.int .i64 xs[i]) :: env) { tmps := (#[p].zip #[Go.Value.int .i64 xs[i]]).foldl (fun t (p, v) => t.setIfInBounds p v) a.tmps, defers := [] } := by
      have h1 := (hE.mono hX.le).put (d := some p) (fun y hy => by cases hy; exact hpN) (v := .int .i64 xs[i]) (rv := .int .i64 xs[i]) (by rfl)
      have hz : (#[p].zip #[Go.Value.int .i64 xs[i]]).foldl (fun t (p, v) => t.setIfInBounds p v) a.tmps = a.tmps.setIfInBounds p (.int .i64 xs[i]) := by simp
      rw [hz]
      exact ⟨h1.size, h1.slot⟩
    refine hex (some (K.w.heap.size + 1)) K2.w.heap.size N pa a' K2 H2 _ _ .normal e1 H3 (.inr hna) hca hH2 hE2 ⟨Nat.le_refl _, (show MarksL _ _ [] from trivial)⟩ hr1 _ (fun K3 a3 hX3 hH3 hE3 hM3 => ?_)
    have hXX3 := hX.trans hX3
    have hl3 : K3.w.heap[K.w.heap.size + 1]? = some (.loop (rec .ready none)) := (hX3.frame _ (Array.getElem?_eq_some_iff.1 hl).1 (hH2.notCells hl (by intro c e f q; cases q) (by intro es c q; cases q))).trans hl
    have hd3 : K3.w.heap[K.w.heap.size]? = some (.deferred (some [])) := (hX3.frame _ (Array.getElem?_eq_some_iff.1 hd).1 (hH2.notCells hd (by intro c e f q; cases q) (by intro es c q; cases q))).trans hd
    have hz31 := zkeep hX3 hd hz1
    have hz32 := zkeep hX3 hl hz2
    refine ⟨_, run_beginRound hl3 (by rw [hrec]), ?_⟩
    have hle3 := KW.putO_le (K := K3) (r := K.w.heap.size + 1) (o := .loop { rec .ready none with state := .busy }) hz32 (ynot hXX3).2 (by rw [hl3]; intro es c q; cases q)
    have hH3' := hH3.putO (o := .loop { rec .ready none with state := .busy }) hz32 (ynot hXX3).2 hl3 (by intro c e f q; cases q) (by intro es c q; cases q)
    have hX3' := hXX3.putO (r := K.w.heap.size + 1) (o := .loop { rec .ready none with state := .busy }) hz32 (ynot hXX3).2 (by omega) (by rw [hl3]; intro es c q; cases q)
    have hl3' : (K3.putO (K.w.heap.size + 1) (.loop { rec .ready none with state := .busy })).w.heap[K.w.heap.size + 1]? = some (.loop { rec .ready none with state := .busy }) := World.putObj_heap_same (Array.getElem?_eq_some_iff.1 hl3).1
    have hd3' : (K3.putO (K.w.heap.size + 1) (.loop { rec .ready none with state := .busy })).w.heap[K.w.heap.size]? = some (.deferred (some [])) := (World.putObj_heap_other (by omega)).trans hd3
    refine hex (some (K.w.heap.size + 1)) K2.w.heap.size N pb b' (K3.putO (K.w.heap.size + 1) (.loop { rec .ready none with state := .busy })) H3 e1 a3 y e2 H4 (.inr hnb) hcb hH3' (hE3.mono hle3) ?_ hr2 _ (fun K4 a4 hX4 hH4 hE4 _ => ?_)
    · refine ⟨by have := hM3.1; simpa [KW.putO] using this, hM3.2.putO (Nat.lt_of_succ_le ?_)⟩
      exact Nat.succ_le_of_lt (Array.getElem?_eq_some_iff.1 hl).1
    have hXX4 := hX3'.trans hX4
    have hl4 : K4.w.heap[K.w.heap.size + 1]? = some (.loop { rec .ready none with state := .busy }) := (hX4.frame _ (Array.getElem?_eq_some_iff.1 hl3').1 (hH3'.notCells hl3' (by intro c e f q; cases q) (by intro es c q; cases q))).trans hl3'
    have hd4 : K4.w.heap[K.w.heap.size]? = some (.deferred (some [])) := (hX4.frame _ (Array.getElem?_eq_some_iff.1 hd3').1 (hH3'.notCells hd3' (by intro c e f q; cases q) (by intro es c q; cases q))).trans hd3'
    have hz41 := zkeep hX4 hd3' hz31
    have hz42 := zkeep hX4 hl3' hz32
    have fin : ∀ (jump : Option Code), (Instr.endRound (K.w.heap.size + 1) jump).run P K4.w = .ok (.bool jump.isNone) (K4.putO (K.w.heap.size + 1) (.loop (rec (if jump.isNone then .ready else .done) jump))).w ∧
        Ext K H (K4.putO (K.w.heap.size + 1) (.loop (rec (if jump.isNone then .ready else .done) jump))) H4 ∧ HRel (K4.putO (K.w.heap.size + 1) (.loop (rec (if jump.isNone then .ready else .done) jump))) H4 ∧
        (K4.putO (K.w.heap.size + 1) (.loop (rec (if jump.isNone then .ready else .done) jump))).w.heap[K.w.heap.size + 1]? = some (.loop (rec (if jump.isNone then .ready else .done) jump)) ∧
        (K4.putO (K.w.heap.size + 1) (.loop (rec (if jump.isNone then .ready else .done) jump))).w.heap[K.w.heap.size]? = some (.deferred (some [])) := fun jump => by
      have := run_endRound (P := P) jump hl4
      rw [hrec] at this
      exact ⟨by rw [hrec]; exact this, hXX4.putO hz42 (ynot hXX4).2 (by omega) (by rw [hl4]; intro es c q; cases q), hH4.putO hz42 (ynot hXX4).2 hl4 (by intro c e f q; cases q) (by intro es c q; cases q), World.putObj_heap_same (Array.getElem?_eq_some_iff.1 hl4).1, (World.putObj_heap_other (by omega)).trans hd4⟩
    cases y with
    | normal =>
      obtain ⟨f1, f2, f3, f4, f5⟩ := fin none
      refine ⟨_, _, f1, .inl ⟨rfl, ?_⟩⟩
      rw [hJ]
      rcases hr3 with ⟨_, hr3⟩ | ⟨hr3, _⟩
      · exact ⟨_, H4, rfl, f2, f3, f4, f5, hz41, hz42, hr3⟩
      · exact absurd rfl hr3
    | exit id =>
      obtain ⟨f1, f2, f3, f4, f5⟩ := fin (some (.exit id))
      refine ⟨_, _, f1, .inr ⟨rfl, ?_⟩⟩
      rw [hJx]
      rcases hr3 with ⟨hr3, _⟩ | ⟨_, hr3⟩
      · cases hr3
      · simp only [Prod.mk.injEq] at hr3
        obtain ⟨rfl, rfl, rfl⟩ := hr3
        exact ⟨_, rfl, f2, f3, f4, f5, hz41, hz42, rfl, by simp⟩
    | ret =>
      obtain ⟨f1, f2, f3, f4, f5⟩ := fin (some .ret)
      refine ⟨_, _, f1, .inr ⟨rfl, ?_⟩⟩
      rw [hJx]
      rcases hr3 with ⟨hr3, _⟩ | ⟨_, hr3⟩
      · cases hr3
      · simp only [Prod.mk.injEq] at hr3
        obtain ⟨rfl, rfl, rfl⟩ := hr3
        exact ⟨_, rfl, f2, f3, f4, f5, hz41, hz42, rfl, by simp⟩
  · rw [hJ]
    exact ⟨_, H, rfl, hX1, hH1, hL1, hD1, fun z => by have := hlt0 _ (.inl z); omega, fun z => by have := hlt0 _ (.inl z); omega, he⟩
  · have done : ∀ (K2 : KW) (st : LoopState) (pe : Option Code), st ≠ .busy → pe = x.code → env' = env → Ext K H K2 H' → HRel K2 H' → K2.w.heap[K.w.heap.size + 1]? = some (.loop (rec st pe)) → K2.w.heap[K.w.heap.size]? = some (.deferred (some [])) →
        ¬ K2.Z K.w.heap.size → ¬ K2.Z (K.w.heap.size + 1) → rangePost (fc none) 0 P (K.w.heap.size + 1) Q { a with defers := [{ target := .collected K.w.heap.size, args := #[] }] ++ a.defers } (.returned (.bool true)) K2.w := by
      intro K2 st pe hst hpe henv hX hH2 hl hd hz1 hz2
      have hend := run_endLoop (P := P) hl (by rw [hrec]; exact hst)
      refine ⟨_, _, hend, ?_⟩
      have hle := KW.putO_le (K := K2) (r := K.w.heap.size + 1) (o := .loop { rec st pe with state := .exhausted }) hz2 (ynot hX).2 (by rw [hl]; intro es c q; cases q)
      have hH5 := hH2.putO (o := .loop { rec st pe with state := .exhausted }) hz2 (ynot hX).2 hl (by intro c e f q; cases q) (by intro es c q; cases q)
      have hX5 := hX.putO (r := K.w.heap.size + 1) (o := .loop { rec st pe with state := .exhausted }) hz2 (ynot hX).2 (by omega) (by rw [hl]; intro es c q; cases q)
      have hfin : Q x.to { a with defers := [{ target := .collected K.w.heap.size, args := #[] }] ++ a.defers } (K2.putO (K.w.heap.size + 1) (.loop { rec st pe with state := .exhausted })).w := by
        refine hQ _ _ hX5 hH5 ?_ ?_
        · rw [henv]
          have := hE.mono (hX.le.trans hle)
          exact ⟨this.size, this.slot⟩
        · have hm5 := hM.ext hH hX5
          refine ⟨hm5.1, ⟨K.w.heap.size, rfl, hM.1, (World.putObj_heap_other (by omega)).trans hd, hz1, (ynot hX).1, ?_⟩, hm5.2⟩
          have hne : ∀ ds : List Deferred, MarksL B K ds → ∀ d' ∈ ds, d'.target ≠ .collected K.w.heap.size := by
            intro ds
            induction ds with
            | nil => intro _ d' hd'; cases hd'
            | cons e es ih =>
              rintro ⟨⟨D', g1, g2, g3, _⟩, hm'⟩ d' hd'
              rcases List.mem_cons.1 hd' with rfl | hd'
              · rw [g1]
                intro hq
                have := (Array.getElem?_eq_some_iff.1 g3).1
                cases hq
                omega
              · exact ih hm' d' hd'
          exact hne _ hM.2
      subst hpe
      cases x with
      | normal => rw [hrec] at hfin ⊢; exact hfin
      | exit id => rw [hrec] at hfin ⊢; exact wpIn_exit hfin
      | ret => rw [hrec] at hfin ⊢; exact wpIn_ret hfin
    rintro e W2 ⟨⟨v, rfl⟩, hj | hj⟩
    · rw [hJ] at hj
      obtain ⟨K2, H2, rfl, hX, hH2, hl, hd, hz1, hz2, hr⟩ := hj
      rw [List.drop_length] at hr
      simp only [rngRun, Option.some.injEq, Prod.mk.injEq] at hr
      obtain ⟨rfl, rfl, rfl⟩ := hr
      exact done K2 .ready none (by simp) rfl rfl hX hH2 hl hd hz1 hz2
    · rw [hJx] at hj
      obtain ⟨K2, rfl, hX, hH2, hl, hd, hz1, hz2, henv, _⟩ := hj
      exact done K2 .done x.code (by simp) rfl henv hX hH2 hl hd hz1 hz2
theorem step_ok (hT : TOk P T) (hex : ExOk P ex) {ro : Option Nat} {B N : Nat} {pc : PCode} {c : Code} {K : KW} {H : Hp} {env : Env} {a : Act} {x : PX} {env' : Env} {H' : Hp} (hnl : ∀ p, pc ≠ .loop p) (hro : ro = none ∨ noRng pc = true) (hok : codeOk P N pc c = true) (hH : HRel K H) (hE : ERel K N env a) (hM : Marks B K a.defers)
    (he : step T ex pc env H = some (x, env', H')) (Q : Exit → Act → World → Prop) (hQ : ∀ K' a', Ext K H K' H' → HRel K' H' → ERel K' N env' a' → Marks B K' a'.defers → Q x.to a' K'.w) : c.wpIn (fc ro) 0 P Q a K.w := by
  cases pc <;> simp only [codeOk] at hok <;> simp only [step] at he
  case skip =>
    split at hok
    · simp only [Option.some.injEq, Prod.mk.injEq] at he
      obtain ⟨rfl, rfl, rfl⟩ := he
      exact wpIn_skip (hQ K a (Ext.refl _ _) hH hE hM)
    · cases hok
  case reg rs chk live =>
    rw [Option.map_eq_some_iff] at he
    obtain ⟨⟨e1, H1⟩, hr, h2⟩ := he
    simp only [Prod.mk.injEq] at h2
    obtain ⟨rfl, rfl, rfl⟩ := h2
    split at hok
    case h_2 => cases hok
    rename_i id ops draw
    simp only [Bool.and_eq_true] at hok
    cases draw
    · have hrun : runSeq (callP T ex) (callO T ex) fzB T.meth rs env H = some (e1, H1) := by
        have hc : chk = [] := by simpa using hok.2
        subst hc
        exact hr
      exact region_ok (callP_ok hT hex) (callO_ok hT hex) fzB_ok hT.meth hok.1 hH hE hrun (fun K' a' hX hH' hE' hd => hQ K' a' hX hH' (hE'.norm live) (by rw [hd]; exact hM.ext hH hX))
    · have hd : drawOk ops rs chk = true ∨ drawOk2 ops rs chk = true := by simpa using hok.2
      rcases hd with hd | hd
      · exact draw_ok (callP_ok hT hex) (callO_ok hT hex) fzB_ok hT.meth hT.mix hok.1 hd hH hE hr (fun K' a' hX hH' hE' hd => hQ K' a' hX hH' (hE'.norm live) (by rw [hd]; exact hM.ext hH hX))
      · exact draw_ok2 (callP_ok hT hex) (callO_ok hT hex) fzB_ok (fun _ _ _ _ => fzB_app) hT.meth hT.mix hok.1 hd hH hE hr (fun K' a' hX hH' hE' hd => hQ K' a' hX hH' (hE'.norm live) (by rw [hd]; exact hM.ext hH hX))
  case seq p q =>
    rw [Option.bind_eq_some_iff] at he
    obtain ⟨⟨y, e1, H1⟩, h1, h2⟩ := he
    split at hok
    case h_2 => cases hok
    rename_i a' b'
    simp only [Bool.and_eq_true] at hok
    have hro1 : ro = none ∨ noRng p = true := hro.imp id fun q => by simp only [noRng, Bool.and_eq_true] at q; exact q.1
    have hro2 : ro = none ∨ noRng q = true := hro.imp id fun q => by simp only [noRng, Bool.and_eq_true] at q; exact q.2
    refine wpIn_seq ?_
    refine hex ro B N p a' K H env a y e1 H1 hro1 hok.1 hH hE hM h1 _ (fun K1 a1 hX1 hH1 hE1 hM1 => ?_)
    cases y with
    | normal =>
      simp only at h2
      exact hex ro B N q b' K1 H1 e1 a1 x env' H' hro2 hok.2 hH1 hE1 hM1 h2 _ (fun K' a' hX hH' hE' hM' => hQ K' a' (hX1.trans hX) hH' hE' hM')
    | exit id =>
      simp only [Option.some.injEq, Prod.mk.injEq] at h2
      obtain ⟨rfl, rfl, rfl⟩ := h2
      exact hQ K1 a1 hX1 hH1 hE1 hM1
    | ret =>
      simp only [Option.some.injEq, Prod.mk.injEq] at h2
      obtain ⟨rfl, rfl, rfl⟩ := h2
      exact hQ K1 a1 hX1 hH1 hE1 hM1
  case cond q p1 p2 =>
    split at hok
    case h_2 => cases hok
    rename_i X a' b'
    simp only [Bool.and_eq_true] at hok
    split at he
    case h_2 => cases he
    rename_i t ht
    have hx := opd_rep hE hok.1.1
    rw [ht] at hx
    have hx' : a.eval X = .bool t := hx
    have hro1 : ro = none ∨ noRng p1 = true := hro.imp id fun q => by simp only [noRng, Bool.and_eq_true] at q; exact q.1
    have hro2 : ro = none ∨ noRng p2 = true := hro.imp id fun q => by simp only [noRng, Bool.and_eq_true] at q; exact q.2
    refine wpIn_cond hx' ?_
    cases t
    · exact hex ro B N p2 b' K H env a x env' H' hro2 hok.2 hH hE hM he Q hQ
    · exact hex ro B N p1 a' K H env a x env' H' hro1 hok.1.2 hH hE hM he Q hQ
  case blk id p =>
    rw [Option.map_eq_some_iff] at he
    obtain ⟨⟨y, e1, H1⟩, h1, h2⟩ := he
    split at hok
    case h_2 => cases hok
    rename_i id' a'
    simp only [Bool.and_eq_true, beq_iff_eq] at hok
    obtain ⟨rfl, hok⟩ := hok
    refine wpIn_block ?_
    refine hex ro B N p a' K H env a y e1 H1 hro hok hH hE hM h1 _ (fun K1 a1 hX1 hH1 hE1 hM1 => ?_)
    cases y with
    | normal =>
      simp only [Prod.mk.injEq] at h2
      obtain ⟨rfl, rfl, rfl⟩ := h2
      exact hQ K1 a1 hX1 hH1 hE1 hM1
    | ret =>
      simp only [Prod.mk.injEq] at h2
      obtain ⟨rfl, rfl, rfl⟩ := h2
      exact hQ K1 a1 hX1 hH1 hE1 hM1
    | exit i =>
      simp only [PX.to, Exit.inBlock]
      simp only at h2
      split at h2
      · rename_i e
        simp only [Prod.mk.injEq] at h2
        obtain ⟨rfl, rfl, rfl⟩ := h2
        rw [if_pos e]
        exact hQ K1 a1 hX1 hH1 hE1 hM1
      · rename_i e
        simp only [Prod.mk.injEq] at h2
        obtain ⟨rfl, rfl, rfl⟩ := h2
        rw [if_neg e]
        exact hQ K1 a1 hX1 hH1 hE1 hM1
  case loop p => exact absurd rfl (hnl p)
  case trim p =>
    rw [Option.bind_eq_some_iff] at he
    obtain ⟨⟨y, e1, H1⟩, h1, h2⟩ := he
    split at h2
    case isFalse => cases h2
    rename_i ht
    simp only [Option.some.injEq, Prod.mk.injEq] at h2
    obtain ⟨rfl, rfl, rfl⟩ := h2
    refine hex ro B N p c K H env a y e1 H1 hro hok hH hE hM h1 _ (fun K1 a1 hX1 hH1 hE1 hM1 => ?_)
    obtain ⟨K2, hw, hX2, hH2, hE2, hz2, hy2⟩ := trim_ok hH hX1 hH1 hE1 ht
    rw [← hw]
    exact hQ K2 a1 hX2 hH2 hE2 (hM1.same hw hz2 hy2)
  case rng q p pa pb =>
    split at hok
    case h_2 => cases hok
    rename_i g ps a' b'
    obtain rfl : ro = none := hro.resolve_right (by simp [noRng])
    exact rng_ok hT hex hok hH hE hM he Q hQ
  case ext id =>
    split at hok
    case h_2 => cases hok
    simp only [beq_iff_eq] at hok
    subst hok
    simp only [Option.some.injEq, Prod.mk.injEq] at he
    obtain ⟨rfl, rfl, rfl⟩ := he
    exact wpIn_exit (hQ K a (Ext.refl _ _) hH hE hM)
  case ret =>
    split at hok
    case h_2 => cases hok
    simp only [Option.some.injEq, Prod.mk.injEq] at he
    obtain ⟨rfl, rfl, rfl⟩ := he
    exact wpIn_ret (hQ K a (Ext.refl _ _) hH hE hM)
  case bad => cases he

theorem loop_ok (hT : TOk P T) {n : Nat} (hex : ∀ m, m ≤ n → ExOk P (pexec T m)) {ro : Option Nat} {B N : Nat} {p : PCode} {c : Code} {K : KW} {H : Hp} {env : Env} {a : Act} {x : PX} {env' : Env} {H' : Hp} (hro : ro = none ∨ noRng p = true) (hok : codeOk P N p c = true) (hH : HRel K H) (hE : ERel K N env a) (hM : Marks B K a.defers)
    (he : pexec T (n + 1) (.loop p) env H = some (x, env', H')) (Q : Exit → Act → World → Prop) (hQ : ∀ K' a', Ext K H K' H' → HRel K' H' → ERel K' N env' a' → Marks B K' a'.defers → Q x.to a' K'.w) : (Code.loop c).wpIn (fc ro) 0 P Q a K.w := by
  refine wpIn_loop_ghost (fun m a1 w1 => m ≤ n + 1 ∧ ∃ K1 H1 e1, K1.w = w1 ∧ Ext K H K1 H1 ∧ HRel K1 H1 ∧ ERel K1 N e1 a1 ∧ Marks B K1 a1.defers ∧ pexec T m (.loop p) e1 H1 = some (x, env', H')) (n + 1) ⟨Nat.le_refl _, K, H, env, rfl, Ext.refl _ _, hH, hE, hM, he⟩ ?_
  rintro m a1 w1 ⟨hm, K1, H1, e1, rfl, hX1, hH1, hE1, hM1, he1⟩
  cases m with
  | zero => cases he1
  | succ m =>
    simp only [pexec, step, Option.bind_eq_some_iff] at he1
    obtain ⟨⟨y, e2, H2⟩, h1, h2⟩ := he1
    refine hex m (by omega) ro B N p c K1 H1 e1 a1 y e2 H2 hro hok hH1 hE1 hM1 h1 _ (fun K2 a2 hX2 hH2 hE2 hM2 => ?_)
    cases y with
    | normal => exact ⟨m, by omega, by omega, K2, H2, e2, rfl, hX1.trans hX2, hH2, hE2, hM2, h2⟩
    | exit id =>
      simp only [Option.some.injEq, Prod.mk.injEq] at h2
      obtain ⟨rfl, rfl, rfl⟩ := h2
      exact hQ K2 a2 (hX1.trans hX2) hH2 hE2 hM2
    | ret =>
      simp only [Option.some.injEq, Prod.mk.injEq] at h2
      obtain ⟨rfl, rfl, rfl⟩ := h2
      exact hQ K2 a2 (hX1.trans hX2) hH2 hE2 hM2

theorem pexec_all (hT : TOk P T) : ∀ n m, m ≤ n → ExOk P (pexec T m)
  | 0, m, hm => by
    obtain rfl : m = 0 := by omega
    intro ro B N pc c K H env a x env' H' _ _ _ _ _ he
    cases he
  | n + 1, m, hm => by
    rcases Nat.lt_or_ge m (n + 1) with h | h
    · exact pexec_all hT n m (by omega)
    · obtain rfl : m = n + 1 := by omega
      have ih := pexec_all hT n
      intro ro B N pc c K H env a x env' H' hro hok hH hE hM he Q hQ
      by_cases hl : ∃ p, pc = .loop p
      · obtain ⟨p, rfl⟩ := hl
        simp only [codeOk] at hok
        split at hok
        · exact loop_ok (p := p) hT ih hro hok hH hE hM he Q hQ
        · cases hok
      · exact step_ok hT (ih n (Nat.le_refl _)) (fun p e => hl ⟨p, e⟩) hro hok hH hE hM he Q hQ
theorem pexec_ok (hT : TOk P T) (n : Nat) : ExOk P (pexec T n) := pexec_all hT n n (Nat.le_refl _)

/-- **A call by value, as the evaluator tells it, is a call of the model's.** -/
theorem pcall_ok (hT : TOk P T) {n f : Nat} {args : List PV} {r : PV} (h : pcall T n f args = some r) : PureOk P f args r := callP_ok hT (pexec_ok hT n) f args r h
end
end Go.Proofs.Ytfocelelbcepnaa.PM
