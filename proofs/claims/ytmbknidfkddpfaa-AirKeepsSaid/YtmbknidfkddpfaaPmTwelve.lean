/- The pure machine, part 12: whole codes and functions, and that they do what the model's do. -/
import Derived.Test.YtmbknidfkddpfaaPmTwentyFour
import Derived.RangeFuncSeq
import Derived.Sort.LoopGhostIn
set_option linter.unusedVariables false
set_option linter.unusedSimpArgs false
namespace Go.Proofs.Ytmbknidfkddpfaa.PM
open Go.RowKit (Below)
open Go.ChangeMaps (setBlock)
open Go.MapKept (Stamped)

/-- A range over a map: the operations ahead of it, the map, the iterator's place, where a step lands, whether there was one, where the entry lands, the operations behind it; the blocks' numbers; what lives behind all. -/
structure Mr where
  rs : List ROp
  m : POpd
  it : Nat
  tn : Nat
  tk : Nat
  te : Nat
  rsE : List ROp
  lvE : List Nat
  id : Nat
  id2 : Nat
  live : List Nat
  deriving Inhabited
inductive PCode where
  | skip
  | reg (rs : List ROp) (chk : List (Nat × Nat)) (live : List Nat)
  | seq (a b : PCode)
  | cond (c : POpd) (a b : PCode)
  | blk (id : Nat) (c : PCode)
  | loop (c : PCode)
  | trim (c : PCode)
  | rng (x : POpd) (p : Nat) (a b : PCode)
  | mrng (M : Mr) (a b : PCode)
  | ext (id : Nat)
  | ret
  | bad
  deriving Inhabited

inductive PX where
  | normal
  | exit (id : Nat)
  | ret
  deriving DecidableEq, Inhabited
def beqX (a b : PX × Env × Hp) : Bool := decide (a.1 = b.1) && (beqEnv a.2.1 b.2.1 && beqHp a.2.2 b.2.2)
theorem beqX_eq {a b : PX × Env × Hp} (h : beqX a b = true) : a = b := by
  obtain ⟨x, e, H⟩ := a
  obtain ⟨x', e', H'⟩ := b
  simp only [beqX, Bool.and_eq_true, decide_eq_true_eq] at h
  rw [h.1, beqEnv_eq h.2.1, beqHp_eq h.2.2]
theorem beqX_refl (a : PX × Env × Hp) : beqX a a = true := by simp [beqX, beqEnv_refl, beqHp_refl]

inductive PRes where
  | tmp (t : Nat)
  | cell (t : Nat) (n : Option Nat)
  deriving Inhabited

structure PFn where
  nt : Nat
  np : Nat
  res : List PRes
  body : PCode
  deriving Inhabited

structure Table where
  fns : List (Nat × PFn)
  nat : Nat → List PV → Option PV
  natO : Nat → List PV → Hp → Option (PV × Hp)
  meth : Nat → String → Option Nat
  sq : Nat → List PV → Option (List Int)

def findF : List (Nat × PFn) → Nat → Option PFn
  | [], _ => none
  | (k, F) :: r, f => if k = f then some F else findF r f

def trimOk (k : Nat) (env : Env) (H : Hp) : Bool := env.all (fun x => x.2.noRef k) && (H.take k).all fun B => B.nr k

def env0 (args : List PV) : Env := args.zipIdx.map fun x => (x.2, x.1)
def resV (env : Env) (H : Hp) : PRes → Option PV
  | .tmp t => some (get env t)
  | .cell t n => evLd n (get env t) H
def resL (env : Env) (H : Hp) : List PRes → Option (List PV)
  | [] => some []
  | r :: rs => (resV env H r).bind fun v => (resL env H rs).map fun vs => v :: vs
def retV (env : Env) (H : Hp) (res : List PRes) : Option PV := (resL env H res).map fun vs => match vs with | [v] => v | vs => .tup vs

def ends (x : PX) : Bool := match x with | .normal | .ret => true | .exit _ => false

/-- The rounds of a range over an iterator that yields these. -/
def rngRun (ex : PCode → Env → Hp → Option (PX × Env × Hp)) (p : Nat) (a b : PCode) (env : Env) : List Int → Hp → Option (PX × Env × Hp)
  | [], H => some (.normal, env, H)
  | i :: is, H => (ex a ((p, .int .i64 i) :: env) H).bind fun q => match q.1 with
    | .normal => (ex b q.2.1 q.2.2).bind fun r => match r.1 with
      | .normal => rngRun ex p a b env is r.2.2
      | x => some (x, env, r.2.2)
    | _ => none
section
variable (T : Table) (ex : PCode → Env → Hp → Option (PX × Env × Hp))
def rngSrc (v : PV) : Option (List Int) := match v with | .clo (.func g) [] cs => T.sq g cs | _ => none
def callP (f : Nat) (args : List PV) : Option PV :=
  match T.nat f args with
  | some r => some r
  | none => (findF T.fns f).bind fun F => if args.length = F.np then
      (ex F.body (env0 args) []).bind fun q => if ends q.1 then (retV q.2.1 q.2.2 F.res).bind fun v => (frz q.2.2 .any 64 v) else none
    else none
def callO (f : Nat) (args : List PV) (H : Hp) : Option (PV × Hp) :=
  match T.natO f args H with
  | some r => some r
  | none => (findF T.fns f).bind fun F => if args.length = F.np then
      (ex F.body (env0 args) H).bind fun q => if ends q.1 then (retV q.2.1 q.2.2 F.res).map fun v => (v, q.2.2) else none
    else none
/-- A round of a range over a map. -/
def mround (M : Mr) (b : Nat) (body : PCode) (kv : PV × PV) (env : Env) (H : Hp) : Option (Env × Hp) :=
  if PV.beq (get env M.it) (.mptr b 0 0) then
    (runSeq (callP T ex) (callO T ex) fzB T.meth M.rsE ((M.te, .tup [kv.1, kv.2]) :: (M.tk, .bool true) :: (M.tn, .undef) :: env) H).bind fun q =>
      (ex body (normE M.lvE q.1) q.2).bind fun r => match r.1 with | .normal => some r.2 | .exit i => if i = M.id2 then some r.2 else none | .ret => none
  else none
def mrounds (M : Mr) (b : Nat) (body : PCode) : List (PV × PV) → Env → Hp → Option (Env × Hp)
  | [], e, H => if PV.beq (get e M.it) (.mptr b 0 0) then some (e, H) else none
  | kv :: o, e, H => (mround T ex M b body kv e H).bind fun q => mrounds M b body o q.1 q.2
/-- The rounds in one order, and what is behind them. -/
def mfull (M : Mr) (body rest : PCode) (n : Nat) (e1 : Env) (H1 H2 : Hp) (o : List (PV × PV)) : Option (PX × Env × Hp) :=
  (mrounds T ex M H2.length body o ((M.it, .mptr H2.length 0 0) :: e1) (H2 ++ [dead])).bind fun r => (mclose (ev e1 M.m) H1 r.2).bind fun H3 =>
    (ex rest ((M.tk, .bool false) :: (M.tn, .undef) :: r.1) H3).bind fun s => if trimOk n (normE M.live s.2.1) s.2.2 then some (s.1, normE M.live s.2.1, s.2.2.take n) else none
def mall (M : Mr) (body rest : PCode) (env : Env) (H : Hp) : Option (PX × Env × Hp) :=
  (runSeq (callP T ex) (callO T ex) fzB T.meth M.rs env H).bind fun q => (mopen (ev q.1 M.m) q.2).bind fun E =>
    (mfull T ex M body rest H.length q.1 q.2 E.2 E.1).bind fun r => if (perms E.1).all (fun o => match mfull T ex M body rest H.length q.1 q.2 E.2 o with | some r' => beqX r' r | none => false) then some r else none
def step (c : PCode) (env : Env) (H : Hp) : Option (PX × Env × Hp) :=
  match c with
  | .skip => some (.normal, env, H)
  | .reg rs chk live => (runReg (callP T ex) (callO T ex) fzB T.meth rs chk env H).map fun q => (.normal, normE live q.1, q.2)
  | .seq a b => (ex a env H).bind fun q => match q.1 with | .normal => ex b q.2.1 q.2.2 | _ => some q
  | .cond c a b => (match ev env c with | .bool t => ex (if t then a else b) env H | _ => none)
  | .blk id c => (ex c env H).map fun q => match q.1 with | .exit i => if i = id then (.normal, q.2) else q | _ => q
  | .loop c => (ex c env H).bind fun q => match q.1 with | .normal => ex (.loop c) q.2.1 q.2.2 | _ => some q
  | .trim c => (ex c env H).bind fun q => if trimOk H.length q.2.1 q.2.2 then some (q.1, q.2.1, q.2.2.take H.length) else none
  | .rng x p a b => (rngSrc T (ev env x)).bind fun xs => rngRun ex p a b env xs H
  | .mrng M a b => mall T ex M a b env H
  | .ext id => some (.exit id, env, H)
  | .ret => some (.ret, env, H)
  | .bad => none
end
def pexec (T : Table) : Nat → PCode → Env → Hp → Option (PX × Env × Hp)
  | 0, _, _, _ => none
  | n + 1, c, env, H => step T (pexec T n) c env H
def pcall (T : Table) (n : Nat) (f : Nat) (args : List PV) : Option PV := callP T (pexec T n) f args

/-! ### Which model code -/
def noRng : PCode → Bool
  | .seq a b | .cond _ a b => noRng a && noRng b
  | .blk _ a | .loop a | .trim a => noRng a
  | .rng .. => false
  | .mrng _ a b => noRng a && noRng b
  | _ => true
def isTmp (x : Operand) (t : Nat) : Bool := match x with | .tmp t' => t' == t | _ => false
def mrRange (P : Program) (M : Mr) (o : Oper) : Bool := (match o.op with | .range t x => opdOk x M.m && (match P.underlying t with | some (.map _ _) => true | _ => false) | _ => false) && (o.dst == some M.it && o.guard == none)
def mrNext (M : Mr) : List Oper → Bool
  | [o1, o2] => (match o1.op with | .next x false => isTmp x M.it | _ => false) && (o1.dst == some M.tn && (o1.guard == none && ((match o2.op with | .extract x 0 => isTmp x M.tn | _ => false) && (o2.dst == some M.tk && o2.guard == none))))
  | _ => false
def mrEntry (P : Program) (N : Nat) (M : Mr) (ops : Array Oper) : List Oper → Bool
  | o :: os => (match o.op with | .entry x => isTmp x M.it | _ => false) && (o.dst == some M.te && (o.guard == none && ropsOk P N ops os M.rsE))
  | [] => false
def mrOk (P : Program) (N : Nat) (M : Mr) (opsR opsN opsE : Array Oper) (X : Operand) : Bool :=
  (match opsR.toList.getLast? with | some o => mrRange P M o | none => false) && (ropsOk P N opsR opsR.toList.dropLast M.rs && (mrNext M opsN.toList && (isTmp X M.tk && (mrEntry P N M opsE opsE.toList && (decide (M.it < N) && (decide (M.tn < N) && (decide (M.tk < N) && (decide (M.te < N) && (decide (M.it ≠ M.tn) && decide (M.it ≠ M.tk))))))))))
def codeOk (P : Program) (N : Nat) : PCode → Code → Bool
  | .skip, c => (match c with | .skip => true | _ => false)
  | .reg rs chk live, c => (match c with | .region _ ops draw => ropsOk P N ops ops.toList rs && (if draw then drawOk ops rs chk || drawOk2 ops rs chk else chk.isEmpty) | _ => false)
  | .seq a b, c => (match c with | .seq a' b' => codeOk P N a a' && codeOk P N b b' | _ => false)
  | .cond x a b, c => (match c with | .cond X a' b' => opdOk X x && codeOk P N a a' && codeOk P N b b' | _ => false)
  | .blk id a, c => (match c with | .block id' a' => id' == id && codeOk P N a a' | _ => false)
  | .loop a, c => (match c with | .loop a' => codeOk P N a a' | _ => false)
  | .trim a, c => codeOk P N a c
  | .rng x p a b, c => (match c with | .rangeFunc g ps a' b' => opdOk g x && (ps.toList == [p]) && decide (p < N) && codeOk P N a a' && codeOk P N b b' && noRng a && noRng b | _ => false)
  | .mrng M a b, c => (match c with
    | .seq (.seq (.region _ opsR false) (.block id (.loop (.seq (.region _ opsN false) (.seq (.cond X .skip (.exit idx)) (.block id2 (.seq (.region _ opsE false) a'))))))) b' =>
      id == M.id && (idx == M.id && (id2 == M.id2 && (mrOk P N M opsR opsN opsE X && (codeOk P N a a' && codeOk P N b b'))))
    | _ => false)
  | .ext id, c => (match c with | .exit id' => id' == id | _ => false)
  | .ret, c => (match c with | .ret => true | _ => false)
  | .bad, _ => true

def resOk (P : Program) : List ResultVar → List PRes → Bool
  | [], [] => true
  | .tmp t :: rs, .tmp t' :: rs' => t == t' && resOk P rs rs'
  | .cell t ty :: rs, .cell t' n :: rs' => t == t' && hasT P ty && n == aggN P ty && resOk P rs rs'
  | _, _ => false
def fnOk (P : Program) (f : Nat) (F : PFn) : Bool :=
  match P.funcs[f]? with
  | some fn => (fn.name != "runtime.NumGoroutine") && fn.ntmps == F.nt && decide (F.np ≤ F.nt) && resOk P fn.results.toList F.res && (match fn.body with | some c => codeOk P F.nt F.body c | none => false)
  | none => false

/-- An iterator's contract, by the list that it yields. -/
def SqOk (P : Program) (sq : Nat → List PV → Option (List Int)) : Prop :=
  ∀ g cs xs, sq g cs = some xs → FnIn P g ∧ ∀ (lb : Array Value) (l : Nat) (J : Nat → World → Prop) (Jx : World → Prop) (W : World),
    (∀ i W1, J i W1 → ∃ (K : KW) (H : Hp), K.w = W1 ∧ HRel K H ∧ RepL K cs lb.toList) →
    (∀ i W1 W2, J i W1 → Below W1.heap.size W1 W2 → J i W2) → (∀ W1 W2, Jx W1 → Below W1.heap.size W1 W2 → Jx W2) →
    (∀ i (hi : i < xs.length) W1, J i W1 → YieldAt (fc none) 0 P l #[.int .i64 xs[i]] W1 fun e W2 => (e = .returned (.bool true) ∧ J (i + 1) W2) ∨ (e = .returned (.bool false) ∧ Jx W2)) →
    J 0 W → CallsIn (fc none) 0 P g (#[.func (.yield l) #[] #[]] ++ lb) W fun e W2 => (∃ v, e = .returned v) ∧ (J xs.length W2 ∨ Jx W2)
structure TOk (P : Program) (T : Table) : Prop where
  fns : ∀ x ∈ T.fns, fnOk P x.1 x.2 = true
  nat : ∀ f args r, T.nat f args = some r → PureOk P f args r
  natO : ∀ f args H r H', T.natO f args H = some (r, H') → OpenOk P f args H r H'
  meth : MethOk P T.meth
  sq : SqOk P T.sq
  mix : P.follows .mixedOrders = true

def PX.to : PX → Exit
  | .normal => .normal
  | .exit id => .exit id
  | .ret => .ret

theorem get_noRef {k : Nat} : ∀ {env : Env}, env.all (fun x => x.2.noRef k) = true → ∀ t, (get env t).noRef k = true
  | [], _, _ => rfl
  | (j, v) :: r, h, t => by
    simp only [List.all_cons, Bool.and_eq_true] at h
    simp only [get]
    split
    · exact h.1
    · exact get_noRef h.2 t
theorem get_env0 (args : List PV) (t : Nat) : get (env0 args) t = args.getD t .undef := by
  have key : ∀ (args : List PV) (k t : Nat), get ((args.zipIdx k).map fun x => (x.2, x.1)) t = if k ≤ t then args.getD (t - k) .undef else .undef := by
    intro args
    induction args with
    | nil => intro k t; simp [get]
    | cons x xs ih =>
      intro k t
      simp only [List.zipIdx_cons, List.map_cons, get, ih]
      by_cases e : k = t
      · subst e; simp
      · rw [if_neg e]
        by_cases h : k ≤ t
        · rw [if_pos h, if_pos (by omega)]
          rw [show t - k = (t - (k + 1)) + 1 from by omega]
          simp
        · rw [if_neg h, if_neg (by omega)]
  have := key args 0 t
  simpa [env0] using this

section
variable {P : Program} {K : KW} {H : Hp} {N : Nat} {env : Env} {a : Act}

theorem run_results (hE : ERel K N env a) (hH : HRel K H) : ∀ {rs : List ResultVar} {ps : List PRes} {vs : List PV}, resOk P rs ps = true → resL env H ps = some vs →
    ∃ l : List Value, (rs.mapM (fun (x : ResultVar) => (match x with | .tmp t => Pure.pure (a.tmps.getD t Go.undef) | .cell x t => (do loadVar t (← asAddr (a.tmps.getD x Go.undef))) : Sem Value))).run P K.w = Result.ok l K.w ∧ RepL K vs l
  | [], [], vs, _, h => by
    simp only [resL, Option.some.injEq] at h
    subst h
    exact ⟨[], rfl, rfl⟩
  | [], _ :: _, _, h, _ => by simp [resOk] at h
  | .tmp _ :: _, [], _, h, _ => by simp [resOk] at h
  | .cell _ _ :: _, [], _, h, _ => by simp [resOk] at h
  | .tmp t :: rs, .tmp t' :: ps, vs, h, he => by
    simp only [resOk, Bool.and_eq_true, beq_iff_eq] at h
    obtain ⟨rfl, h⟩ := h
    simp only [resL, resV, Option.bind_some, Option.map_eq_some_iff] at he
    obtain ⟨vs', hv, rfl⟩ := he
    obtain ⟨l, hl, hr⟩ := run_results hE hH h hv
    refine ⟨a.tmps.getD t Go.undef :: l, ?_, ⟨_, _, rfl, hE.slot t, hr⟩⟩
    simp only [List.mapM_cons, Sem.run_bind, Sem.run_pure, Result.andThen_ok, hl]
  | .tmp _ :: _, .cell _ _ :: _, _, h, _ => by simp [resOk] at h
  | .cell _ _ :: _, .tmp _ :: _, _, h, _ => by simp [resOk] at h
  | .cell x ty :: rs, .cell x' n :: ps, vs, h, he => by
    simp only [resOk, Bool.and_eq_true, beq_iff_eq] at h
    obtain ⟨⟨⟨rfl, h1⟩, h2⟩, h3⟩ := h
    simp only [resL, resV, Option.bind_eq_some_iff, Option.map_eq_some_iff] at he
    obtain ⟨v, hv, vs', hvs, rfl⟩ := he
    obtain ⟨l, hl, hr⟩ := run_results hE hH h3 hvs
    have hx := hE.slot x
    have hrun : ∃ u, (do loadVar ty (← asAddr (a.tmps.getD x Go.undef)) : Sem Value).run P K.w = .ok u K.w ∧ Rep K v u := by
      generalize get env x = px at hv hx
      cases px <;> simp only [evLd, reduceCtorEq] at hv
      case pptr bor xs off =>
        obtain ⟨_, _, g, oo, hv', _, hrow⟩ := hx
        obtain ⟨u, hu, hru⟩ := run_loadVar_pv h1 hrow h2 hv
        exact ⟨u, by simp only [Sem.run_bind, hv', asAddr, Sem.run_pure, Result.andThen_ok, hu], hru⟩
      case mptr b gen off =>
        obtain ⟨g, nn, hm, hv'⟩ := hx
        split at hv
        case h_2 => cases hv
        rename_i B hB
        split at hv
        case isFalse => cases hv
        rename_i hg
        subst hg
        obtain ⟨u, hu, hru⟩ := run_loadVar_pv h1 (hH.row hB hm) h2 hv
        rw [Nat.zero_add] at hu
        exact ⟨u, by simp only [Sem.run_bind, hv', asAddr, Sem.run_pure, Result.andThen_ok, hu], hru⟩
    obtain ⟨u, hu, hru⟩ := hrun
    refine ⟨u :: l, ?_, ⟨_, _, rfl, hru, hr⟩⟩
    simp only [List.mapM_cons, Sem.run_bind] at hu ⊢
    simp only [hu, Sem.run_pure, Result.andThen_ok, hl]

theorem run_retV (hE : ERel K N env a) (hH : HRel K H) {fn : Func} {ps : List PRes} {v : PV} (hok : resOk P fn.results.toList ps = true) (he : retV env H ps = some v) : ∃ rv, (results fn a.tmps).run P K.w = .ok rv K.w ∧ Rep K v rv := by
  unfold retV at he
  rw [Option.map_eq_some_iff] at he
  obtain ⟨vs, hvs, hv⟩ := he
  obtain ⟨l, hl, hr⟩ := run_results hE hH hok hvs
  have hrun : (results fn a.tmps).run P K.w = .ok (if h : l.toArray.size = 1 then l.toArray[0] else .tuple l.toArray) K.w := by
    unfold results
    rw [Array.mapM_eq_mapM_toList]
    simp only [Sem.run_bind, Sem.run_map]
    erw [hl]
    rfl
  refine ⟨_, hrun, ?_⟩
  subst hv
  have hlen := hr.length
  by_cases h1 : l.length = 1
  · obtain ⟨u, rfl⟩ := List.length_eq_one_iff.1 h1
    obtain ⟨x, rfl⟩ := List.length_eq_one_iff.1 (hlen.trans h1)
    obtain ⟨_, _, e, hx, _⟩ := hr
    simp only [List.cons.injEq] at e
    rw [← e.1] at hx
    simpa using hx
  · rw [dif_neg (by simpa using h1)]
    have : (match vs with | [v] => v | vs => PV.tup vs) = .tup vs := by
      match vs, hlen with
      | [], _ => rfl
      | [x], h => exact absurd h.symm h1
      | _ :: _ :: _, _ => rfl
    rw [this]
    exact ⟨_, rfl, by simpa using hr⟩

/-- The marks of ranges over functions that are behind. -/
def MarksL (B : Nat) (K : KW) : List Deferred → Prop
  | [] => True
  | d :: ds => (∃ D, d.target = .collected D ∧ B ≤ D ∧ K.w.heap[D]? = some (.deferred (some [])) ∧ ¬ K.Z D ∧ ¬ K.Y D ∧ ∀ d' ∈ ds, d'.target ≠ .collected D) ∧ MarksL B K ds
def Marks (B : Nat) (K : KW) (ds : List Deferred) : Prop := B ≤ K.w.heap.size ∧ MarksL B K ds
theorem HRel.notCells {K : KW} {H : Hp} (hH : HRel K H) {g : Nat} {o : Obj} (hg : K.w.heap[g]? = some o) (ho : ∀ c e f, o ≠ .cells c e f) (hom : ∀ es c, o ≠ .map es c) : ¬ Live K H g := by
  rintro ⟨b, B, n, hb, hm⟩
  rcases hH.blk b B hb with ⟨_, _, hn⟩ | ⟨m, g', es, cl, _, _, _, hm', hh, _⟩ | ⟨g', cur, _, hm', hh, _⟩
  · rw [hm] at hn; cases hn
  · rw [hm] at hm'
    obtain ⟨rfl, _⟩ : g = g' ∧ n = 0 := by simpa using hm'
    rw [hg, Option.some.injEq] at hh
    exact hom _ _ hh
  · rw [hm] at hm'
    obtain ⟨rfl, _⟩ : g = g' ∧ n = cur.size := by simpa using hm'
    rw [hg, Option.some.injEq] at hh
    exact ho _ _ _ hh
theorem MarksL.ext {B : Nat} {K K' : KW} {H H' : Hp} (hH : HRel K H) (hX : Ext K H K' H') : ∀ {ds : List Deferred}, MarksL B K ds → MarksL B K' ds
  | [], _ => trivial
  | d :: ds, ⟨⟨D, h1, h2, h3, h4, h5, h6⟩, h⟩ => by
    have hlt := (Array.getElem?_eq_some_iff.1 h3).1
    refine ⟨⟨D, h1, h2, (hX.frame D hlt (hH.notCells h3 (by intro c e f q; cases q) (by intro es c q; cases q))).trans h3, fun q => ?_, fun q => h5 (hX.yb D q), h6⟩, MarksL.ext hH hX h⟩
    rcases hX.zb D q with q | q
    · exact h4 q
    · omega
theorem Marks.ext {B : Nat} {K K' : KW} {H H' : Hp} (hH : HRel K H) (hX : Ext K H K' H') {ds : List Deferred} (h : Marks B K ds) : Marks B K' ds := ⟨Nat.le_trans h.1 hX.le.size, h.2.ext hH hX⟩
/-- A block that no value leans on becomes another object. -/
def KW.putO (K : KW) (r : Nat) (o : Obj) : KW := ⟨K.w.putObj r o, K.Z, K.Y, K.μ⟩
theorem KW.putO_le {K : KW} {r : Nat} {o : Obj} (hz : ¬ K.Z r) (hy : ¬ K.Y r) (hnm : ∀ es c, K.w.heap[r]? ≠ some (.map es c)) : K.Le (K.putO r o) :=
  ⟨rfl, rfl, rfl, by simp [KW.putO], fun g hg => World.putObj_heap_other (by rintro rfl; exact hg.elim hz hy), fun _ h => h, fun _ h => h, fun _ _ _ h => h, MapsKeep.of_same fun g es c hg => World.putObj_heap_other (by rintro rfl; exact hnm es c hg)⟩
theorem HRel.putO {K : KW} {H : Hp} (hH : HRel K H) {r : Nat} {o o0 : Obj} (hz : ¬ K.Z r) (hy : ¬ K.Y r) (hr : K.w.heap[r]? = some o0) (ho : ∀ c e f, o0 ≠ .cells c e f) (hom : ∀ es c, o0 ≠ .map es c) : HRel (K.putO r o) H := by
  have hle := KW.putO_le (o := o) hz hy (by rw [hr]; intro es c q; exact hom es c (Option.some.inj q))
  refine ⟨?_, hH.inj, hH.fresh, fun g hg => by simpa [KW.putO] using hH.lt g hg⟩
  intro b B hb
  rcases hH.blk b B hb with h | ⟨m, g, es, cl, hx, hp, hg0, hm, hh, hz', hy', hmp⟩ | ⟨g, cur, hp, hm, hh, hz', hy', hl, hrr, h1⟩
  · exact .inl h
  · have hne : g ≠ r := by
      rintro rfl
      rw [hr, Option.some.injEq] at hh
      exact hom _ _ hh
    exact .inr <| .inl ⟨m, g, es, cl, hx, hp, hg0, hm, (World.putObj_heap_other hne).trans hh, hz', hy', hmp.mono hle⟩
  · have hne : g ≠ r := by
      rintro rfl
      rw [hr, Option.some.injEq] at hh
      exact ho _ _ _ hh
    exact .inr <| .inr ⟨g, cur, hp, hm, (World.putObj_heap_other hne).trans hh, hz', hy', hl, hrr.mono hle, h1⟩
theorem Ext.putO {K0 K : KW} {H0 H : Hp} (hX : Ext K0 H0 K H) {r : Nat} {o : Obj} (hz : ¬ K.Z r) (hy : ¬ K.Y r) (hr : K0.w.heap.size ≤ r) (hnm : ∀ es c, K.w.heap[r]? ≠ some (.map es c)) : Ext K0 H0 (K.putO r o) H :=
  ⟨hX.le.trans (KW.putO_le hz hy hnm), fun g hg hl => (World.putObj_heap_other (by omega)).trans (hX.frame g hg hl), hX.live, hX.zb, hX.yb⟩
theorem HRel.grow0 {K : KW} {H : Hp} (hH : HRel K H) {w' : World} (hb : Below K.w.heap.size K.w w') : HRel ⟨w', K.Z, K.Y, K.μ⟩ H ∧ Ext K H ⟨w', K.Z, K.Y, K.μ⟩ H := by
  have hle : K.Le ⟨w', K.Z, K.Y, K.μ⟩ := ⟨hb.os, hb.tape, hb.output, hb.size, fun g hg => hb.block g (hH.lt g hg), fun g hg => hg, fun g hg => hg, fun _ _ _ h => h, MapsKeep.of_same fun g _ _ hg => hb.block g (Array.getElem?_eq_some_iff.1 hg).1⟩
  refine ⟨⟨?_, hH.inj, hH.fresh, fun g hg => Nat.lt_of_lt_of_le (hH.lt g hg) hb.size⟩, hle, fun g hg _ => hb.block g hg, fun g hg => .inl hg, fun g hg => .inl hg, fun g hg => hg⟩
  intro b B hB
  rcases hH.blk b B hB with h | ⟨m, g, es, cl, hx, hp, hg0, hm, hh, hz, hy, hmp⟩ | ⟨g, cur, hp, hm, hh, hz, hy, hl, hr, h1⟩
  · exact .inl h
  · exact .inr <| .inl ⟨m, g, es, cl, hx, hp, hg0, hm, (hb.block g (Array.getElem?_eq_some_iff.1 hh).1).trans hh, hz, hy, hmp.mono hle⟩
  · exact .inr <| .inr ⟨g, cur, hp, hm, (hb.block g (Array.getElem?_eq_some_iff.1 hh).1).trans hh, hz, hy, hl, hr.mono hle, h1⟩

theorem MarksL.same {B : Nat} {K K' : KW} (hw : K'.w = K.w) (hz : K'.Z = K.Z) (hy : K'.Y = K.Y) : ∀ {ds : List Deferred}, MarksL B K ds → MarksL B K' ds
  | [], _ => trivial
  | d :: ds, ⟨⟨D, h1, h2, h3, h4, h5, h6⟩, h⟩ => ⟨⟨D, h1, h2, by rw [hw]; exact h3, by rw [hz]; exact h4, by rw [hy]; exact h5, h6⟩, MarksL.same hw hz hy h⟩
theorem Marks.same {B : Nat} {K K' : KW} (hw : K'.w = K.w) (hz : K'.Z = K.Z) (hy : K'.Y = K.Y) {ds : List Deferred} (h : Marks B K ds) : Marks B K' ds := ⟨by rw [hw]; exact h.1, h.2.same hw hz hy⟩
/-- What a code's soundness says. -/
def ExOk (P : Program) (ex : PCode → Env → Hp → Option (PX × Env × Hp)) : Prop :=
  ∀ (ro : Option Nat) (B N : Nat) (pc : PCode) (c : Code) (K : KW) (H : Hp) (env : Env) (a : Act) (x : PX) (env' : Env) (H' : Hp), (ro = none ∨ noRng pc = true) → codeOk P N pc c = true → HRel K H → ERel K N env a → Marks B K a.defers → ex pc env H = some (x, env', H') →
    ∀ (Q : Exit → Act → World → Prop), (∀ K' a', Ext K H K' H' → HRel K' H' → ERel K' N env' a' → Marks B K' a'.defers → Q x.to a' K'.w) → c.wpIn (fc ro) 0 P Q a K.w

theorem findF_mem : ∀ {l : List (Nat × PFn)} {f : Nat} {F : PFn}, findF l f = some F → (f, F) ∈ l
  | [], _, _, h => by simp [findF] at h
  | (k, G) :: l, f, F, h => by
    simp only [findF] at h
    split at h
    · rename_i e
      simp at h
      subst e; subst h
      simp
    · exact List.mem_cons_of_mem _ (findF_mem h)

theorem fnOk_spec {f : Nat} {F : PFn} (h : fnOk P f F = true) : ∃ fn c, P.funcs[f]? = some fn ∧ fn.body = some c ∧ FnIn P f ∧ fn.ntmps = F.nt ∧ F.np ≤ F.nt ∧ resOk P fn.results.toList F.res = true ∧ codeOk P F.nt F.body c = true := by
  unfold fnOk at h
  split at h
  case h_2 => cases h
  rename_i fn hfn
  simp only [Bool.and_eq_true, bne_iff_ne, ne_eq, beq_iff_eq, decide_eq_true_eq] at h
  obtain ⟨⟨⟨⟨h1, h2⟩, h3⟩, h4⟩, h5⟩ := h
  split at h5
  case h_2 => cases h5
  rename_i c hc
  exact ⟨fn, c, hfn, hc, ⟨fn, hfn, by simpa using h1, by rw [hc]; rfl⟩, h2, h3, h4, h5⟩

theorem erel_enter {K : KW} {args : List PV} {vs : Array Value} {nt np : Nat} (ha : RepL K args vs.toList) (hl : args.length = np) (hn : np ≤ nt) : ERel K nt (env0 args) { tmps := vs ++ Array.replicate (nt - vs.size) Go.undef, defers := [] } := by
  have hvs : vs.size = np := by have := ha.length; simp at this; omega
  refine ⟨by simp [hvs]; omega, fun t => ?_⟩
  rw [get_env0]
  by_cases ht : t < args.length
  · obtain ⟨v, hv, hr⟩ := ha.get t _ (List.getElem?_eq_getElem ht)
    have hv' : vs[t]? = some v := by simpa using hv
    simp only [List.getD_eq_getElem?_getD, List.getElem?_eq_getElem ht, Option.getD_some, Array.getD_eq_getD_getElem?, Array.getElem?_append]
    rw [if_pos (by omega), hv']
    exact hr
  · simp only [List.getD_eq_getElem?_getD, List.getElem?_eq_none (Nat.le_of_not_lt ht), Option.getD_none]
    trivial

theorem Ext.below {K : KW} {w : World} {Z Y : Nat → Prop} (h : Ext ⟨w, Z, Y, noMu⟩ [] K H) : Below w.heap.size w K.w :=
  ⟨h.le.os, h.le.tape, h.le.output, h.le.size, fun k hk => h.frame k hk (by rintro ⟨b, B, n, hb, _⟩; simp at hb)⟩

theorem hrel_nil (w : World) (Z Y : Nat → Prop) (h : ∀ g, Z g ∨ Y g → g < w.heap.size) : HRel ⟨w, Z, Y, noMu⟩ [] :=
  ⟨by simp, by simp, fun _ _ _ => rfl, h⟩

variable {T : Table} {ex : PCode → Env → Hp → Option (PX × Env × Hp)}

theorem leaves_marks {R : Ending → World → Prop} {fn : Func} {K0 : KW} {H0 : Hp} {N : Nat} {env : Env} {a : Act} {H : Hp} :
    ∀ (ds : List Deferred) (K : KW), MarksL K0.w.heap.size K ds → Ext K0 H0 K H → HRel K H → ERel K N env a →
      (∀ K', Ext K0 H0 K' H → HRel K' H → ERel K' N env a → ∃ v, (results fn a.tmps).run P K'.w = .ok v K'.w ∧ R (.returned v) K'.w) → LeavesInM (fc none) 0 P fn a.tmps R ds .returning K.w
  | [], K, _, hX, hH, hE, h => h K hX hH hE
  | d :: ds, K, ⟨⟨D, h1, h2, h3, h4, h5, h6⟩, hm⟩, hX, hH, hE, h => by
    refine ⟨by simp, .inl ⟨D, _, h1, run_takeDeferred h3, ?_⟩⟩
    have hle := KW.putO_le (o := .deferred none) h4 h5 (by rw [h3]; intro es c q; cases q)
    have key : ∀ ds : List Deferred, (∀ d' ∈ ds, d'.target ≠ .collected D) → MarksL K0.w.heap.size K ds → MarksL K0.w.heap.size (K.putO D (.deferred none)) ds := by
      intro ds
      induction ds with
      | nil => intro _ _; trivial
      | cons e es ih =>
        rintro hne ⟨⟨D', g1, g2, g3, g4, g5, g6⟩, hm'⟩
        refine ⟨⟨D', g1, g2, (World.putObj_heap_other ?_).trans g3, g4, g5, g6⟩, ih (fun d' hd' => hne d' (List.mem_cons_of_mem _ hd')) hm'⟩
        rintro rfl
        exact hne e (by simp) g1
    exact leaves_marks ds (K.putO D (.deferred none)) (key ds h6 hm) (hX.putO h4 h5 h2 (by rw [h3]; intro es c q; cases q)) (hH.putO h4 h5 h3 (by intro c e f q; cases q) (by intro es c q; cases q)) (hE.mono hle) h
theorem ends_post {R : Ending → World → Prop} {fn : Func} {x : PX} {a' : Act} {w' : World} (hx : ends x = true) (h : LeavesInM (fc none) 0 P fn a'.tmps R a'.defers .returning w') : bodyPostM (fc none) 0 P fn R x.to a' w' := by
  cases x <;> simp [ends] at hx <;> exact h

theorem callP_ok (hT : TOk P T) (hex : ExOk P ex) (f : Nat) (args : List PV) (r : PV) (he : callP T ex f args = some r) : PureOk P f args r := by
  unfold callP at he
  split at he
  · rename_i r' hr
    simp only [Option.some.injEq] at he
    subst he
    exact hT.nat f args r' hr
  · simp only [Option.bind_eq_some_iff] at he
    obtain ⟨F, hF, he⟩ := he
    split at he
    case isFalse => cases he
    rename_i hnp
    simp only [Option.bind_eq_some_iff] at he
    obtain ⟨⟨x, env', H'⟩, hx, he⟩ := he
    split at he
    case isFalse => cases he
    rename_i hends
    simp only [Option.bind_eq_some_iff] at he
    obtain ⟨v, hv, hfr⟩ := he
    obtain ⟨fn, c, hfn, hb, hin, hnt, hle, hres, hcode⟩ := fnOk_spec (hT.fns _ (findF_mem hF))
    refine ⟨hin, fun w Z Y vs hlt ha => ?_⟩
    refine callsIn_wide.1 (callsIn_of_wp_marks (F := fc none) (n := 0) hfn hb trivial ?_)
    have hE := erel_enter ha hnp hle
    rw [← hnt] at hE
    refine hex none w.heap.size F.nt F.body c ⟨w, Z, Y, noMu⟩ [] (env0 args) _ x env' H' (.inl rfl) hcode (hrel_nil w Z Y hlt) (by rw [hnt] at hE; rw [hnt]; exact hE) ⟨Nat.le_refl _, (show MarksL _ _ [] from trivial)⟩ hx _ (fun K1 a1 hX1 hH1 hE11 hM1 => ?_)
    refine ends_post hends (leaves_marks (K0 := ⟨w, Z, Y, noMu⟩) (H0 := []) a1.defers K1 hM1.2 hX1 hH1 hE11 fun K1 hX hH hE1 => ?_)
    obtain ⟨rv, hrv, hrep⟩ := run_retV hE1 hH hres hv
    refine ⟨rv, hrv, rv, rfl, hX.below, ?_⟩
    have hlive : ∀ g, Live K1 H' g → w.heap.size ≤ g ∧ g < K1.w.heap.size := fun g hg => ⟨(hX.live g hg).elim (by rintro ⟨b, B, n, hb, _⟩; simp at hb) id, hH.live_lt hg⟩
    obtain ⟨h1, h2⟩ := frz_spec (K' := ⟨K1.w, fun g => Z g ∨ (w.heap.size ≤ g ∧ g < K1.w.heap.size), Y, noMu⟩) (.inr rfl) hH rfl
      (fun g hg => (hX.zb g hg).imp id (fun q => ⟨q, hH.lt g (.inl hg)⟩)) (fun g hg => .inr (hX.yb g hg)) (fun g hg => .inl (.inr (hlive g hg))) 64 v r rv hfr hrep
    exact h1

theorem callO_ok (hT : TOk P T) (hex : ExOk P ex) (f : Nat) (args : List PV) (H : Hp) (r : PV) (H' : Hp) (he : callO T ex f args H = some (r, H')) : OpenOk P f args H r H' := by
  unfold callO at he
  split at he
  · rename_i r' hr
    simp only [Option.some.injEq] at he
    subst he
    exact hT.natO f args H _ _ hr
  · simp only [Option.bind_eq_some_iff] at he
    obtain ⟨F, hF, he⟩ := he
    split at he
    case isFalse => cases he
    rename_i hnp
    simp only [Option.bind_eq_some_iff] at he
    obtain ⟨⟨x, env', H1⟩, hx, he⟩ := he
    split at he
    case isFalse => cases he
    rename_i hends
    simp only [Option.map_eq_some_iff, Prod.mk.injEq] at he
    obtain ⟨v, hv, rfl, rfl⟩ := he
    obtain ⟨fn, c, hfn, hb, hin, hnt, hle, hres, hcode⟩ := fnOk_spec (hT.fns _ (findF_mem hF))
    refine ⟨hin, fun K vs hH ha => ?_⟩
    refine callsIn_wide.1 (callsIn_of_wp_marks (F := fc none) (n := 0) hfn hb trivial ?_)
    have hE := erel_enter ha hnp hle
    refine hex none K.w.heap.size F.nt F.body c K H (env0 args) _ x env' H1 (.inl rfl) hcode hH (by rw [hnt]; exact hE) ⟨Nat.le_refl _, (show MarksL _ _ [] from trivial)⟩ hx _ (fun K1 a1 hX1 hH11 hE11 hM1 => ?_)
    refine ends_post hends (leaves_marks (K0 := K) (H0 := H) a1.defers K1 hM1.2 hX1 hH11 hE11 fun K1 hX hH1 hE1 => ?_)
    obtain ⟨rv, hrv, hrep⟩ := run_retV hE1 hH1 hres hv
    exact ⟨rv, hrv, rv, K1, rfl, rfl, hX, hH1, hrep⟩

theorem ERel.norm {K : KW} {N : Nat} {env : Env} {a : Act} (h : ERel K N env a) (live : List Nat) : ERel K N (normE live env) a := ⟨h.size, fun t => by
  rw [get_normE]
  split
  · exact h.slot t
  · trivial⟩

theorem trim_ok {K K' : KW} {H H' : Hp} {N : Nat} {env : Env} {a : Act} (hH : HRel K H) (hX : Ext K H K' H') (hH' : HRel K' H') (hE : ERel K' N env a) (ht : trimOk H.length env H' = true) :
    ∃ K2, K2.w = K'.w ∧ Ext K H K2 (H'.take H.length) ∧ HRel K2 (H'.take H.length) ∧ ERel K2 N env a ∧ K2.Z = K'.Z ∧ K2.Y = K'.Y := by
  simp only [trimOk, Bool.and_eq_true] at ht
  obtain ⟨ht1, ht2⟩ := ht
  have hget : ∀ b B, (H'.take H.length)[b]? = some B → b < H.length ∧ H'[b]? = some B := by
    intro b B hb
    rw [List.getElem?_take] at hb
    split at hb
    · exact ⟨by assumption, hb⟩
    · cases hb
  refine ⟨⟨K'.w, K'.Z, K'.Y, fun b gen => if b < H.length then K'.μ b gen else none⟩, rfl, ⟨⟨hX.le.os, hX.le.tape, hX.le.output, hX.le.size, hX.le.keep, hX.le.z, hX.le.y, ?_, hX.le.maps⟩, hX.frame, ?_, hX.zb, hX.yb⟩, ⟨?_, ?_, ?_, hH'.lt⟩, ⟨hE.size, fun t => Rep.trim _ _ (get_noRef ht1 t) (hE.slot t)⟩, rfl, rfl⟩
  · intro b n p hp
    have hb : b < H.length := by
      apply Classical.byContradiction
      intro hno
      rw [hH.fresh b n (fun B hB => by rw [List.getElem?_eq_none (by omega)] at hB; cases hB)] at hp
      cases hp
    simp only [if_pos hb]
    exact hX.le.mu b n p hp
  · rintro g ⟨b, B, n, hb, hm⟩
    obtain ⟨h1, h2⟩ := hget b B hb
    simp only [if_pos h1] at hm
    exact hX.live g ⟨b, B, n, h2, hm⟩
  · intro b B hb
    obtain ⟨h1, h2⟩ := hget b B hb
    simp only [if_pos h1]
    have hnB := List.all_eq_true.1 ht2 B (List.mem_of_getElem? hb)
    rcases hH'.blk b B h2 with h | ⟨m, g, es, cl, hx, hp, hg0, hm, hh, hz, hy, hk2, hst2, es', hpm2, hks2, hvs2⟩ | ⟨g, cur, hp, hm, hh, hz, hy, hl, hr, h3⟩
    · exact .inl h
    · exact .inr <| .inl ⟨m, g, es, cl, hx, hp, hg0, hm, hh, hz, hy, hk2, hst2, es', hpm2, hks2, RepL.trim _ _ (Blk.nr_mp hnB hp) hvs2⟩
    · exact .inr <| .inr ⟨g, cur, hp, hm, hh, hz, hy, hl, RepL.trim _ _ (Blk.nr_xs hnB) hr, h3⟩
  · intro b b' B B' g n n' hb hb' hm hm'
    obtain ⟨h1, h2⟩ := hget b B hb
    obtain ⟨h1', h2'⟩ := hget b' B' hb'
    simp only [if_pos h1] at hm
    simp only [if_pos h1'] at hm'
    exact hH'.inj b b' B B' g n n' h2 h2' hm hm'
  · intro b gen hgn
    by_cases hb : b < H.length
    · simp only [if_pos hb]
      exact hH'.fresh b gen (fun B hB => hgn B (by rw [List.getElem?_take, if_pos hb]; exact hB))
    · simp only [if_neg hb]

theorem MarksL.putO {B : Nat} {K : KW} {r : Nat} {o : Obj} (hr : r < B) : ∀ {ds : List Deferred}, MarksL B K ds → MarksL B (K.putO r o) ds
  | [], _ => trivial
  | d :: ds, ⟨⟨D, h1, h2, h3, h4, h5, h6⟩, h⟩ => ⟨⟨D, h1, h2, (World.putObj_heap_other (by omega)).trans h3, h4, h5, h6⟩, MarksL.putO hr h⟩
theorem rngRun_cons {ex : PCode → Env → Hp → Option (PX × Env × Hp)} {p : Nat} {pa pb : PCode} {env : Env} {i : Int} {is : List Int} {H : Hp} {r : PX × Env × Hp} (h : rngRun ex p pa pb env (i :: is) H = some r) :
    ∃ e1 H1 y e2 H2, ex pa ((p, .int .i64 i) :: env) H = some (.normal, e1, H1) ∧ ex pb e1 H1 = some (y, e2, H2) ∧ ((y = .normal ∧ rngRun ex p pa pb env is H2 = some r) ∨ (y ≠ .normal ∧ r = (y, env, H2))) := by
  simp only [rngRun, Option.bind_eq_some_iff] at h
  obtain ⟨⟨x, e1, H1⟩, h1, h⟩ := h
  cases x with
  | normal =>
    simp only [Option.bind_eq_some_iff] at h
    obtain ⟨⟨y, e2, H2⟩, h2, h⟩ := h
    refine ⟨e1, H1, y, e2, H2, h1, h2, ?_⟩
    cases y with
    | normal => exact .inl ⟨rfl, h⟩
    | exit id => simp only [Option.some.injEq] at h; exact .inr ⟨by simp, h.symm⟩
    | ret => simp only [Option.some.injEq] at h; exact .inr ⟨by simp, h.symm⟩
  | exit id => cases h
  | ret => cases h
def PX.code : PX → Option Code
  | .normal => none
  | .exit id => some (.exit id)
  | .ret => some .ret
theorem rng_ok (hT : TOk P T) (hex : ExOk P ex) {B N : Nat} {q : POpd} {p : Nat} {pa pb : PCode} {g : Operand} {ps : Array Tmp} {a' b' : Code} {K : KW} {H : Hp} {env : Env} {a : Act} {x : PX} {env' : Env} {H' : Hp}
    (hok : (opdOk g q && (ps.toList == [p]) && decide (p < N) && codeOk P N pa a' && codeOk P N pb b' && noRng pa && noRng pb) = true) (hH : HRel K H) (hE : ERel K N env a) (hM : Marks B K a.defers)
    (he : ((rngSrc T (ev env q)).bind fun xs => rngRun ex p pa pb env xs H) = some (x, env', H')) (Q : Exit → Act → World → Prop)
    (hQ : ∀ K' a', Ext K H K' H' → HRel K' H' → ERel K' N env' a' → Marks B K' a'.defers → Q x.to a' K'.w) : (Code.rangeFunc g ps a' b').wpIn (fc none) 0 P Q a K.w := by
  simp only [Bool.and_eq_true, beq_iff_eq, decide_eq_true_eq] at hok
  obtain ⟨⟨⟨⟨⟨⟨hg, hps⟩, hpN⟩, hca⟩, hcb⟩, hna⟩, hnb⟩ := hok
  obtain rfl : ps = #[p] := by apply Array.ext'; rw [hps]
  rw [Option.bind_eq_some_iff] at he
  obtain ⟨xs, hxs, he⟩ := he
  have hgr := opd_rep hE hg
  unfold rngSrc at hxs
  split at hxs
  case h_2 => cases hxs
  rename_i gf cs hv
  rw [hv] at hgr
  obtain ⟨fs', cs', hgv, hfs, hcs⟩ := hgr
  have hfs0 : fs' = #[] := by
    have := hfs.length
    exact Array.eq_empty_of_size_eq_zero (by simpa using this.symm)
  subst hfs0
  obtain ⟨hin, hseq⟩ := hT.sq gf cs xs hxs
  refine wpIn_rangeFunc ?_
  intro fn hfn
  obtain ⟨rec, hrec⟩ : ∃ rec : LoopState → Option Code → Loop, rec = fun st pe => { state := st, pending := pe, fn, tmps := a.tmps, params := #[p], assign := a', body := b', defers := K.w.heap.size } := ⟨_, rfl⟩
  obtain ⟨W1, hW1⟩ : ∃ W1, (K.w.alloc (.deferred (some []))).alloc (.loop (rec .ready none)) = W1 := ⟨_, rfl⟩
  have hL1 : W1.heap[K.w.heap.size + 1]? = some (.loop (rec .ready none)) := by
    rw [← hW1]; have := World.alloc_heap_new (K.w.alloc (.deferred (some []))) (.loop (rec .ready none)); rwa [World.size_alloc] at this
  have hD1 : W1.heap[K.w.heap.size]? = some (.deferred (some [])) := by
    rw [← hW1]; exact (Below.heap_alloc _ _ _ (by simp)).trans (World.alloc_heap_new K.w _)
  have hb1 : Below K.w.heap.size K.w W1 := by
    rw [← hW1]; exact ((Below.refl _ K.w).alloc (Nat.le_refl _) _).alloc (by simp) _
  obtain ⟨hH1, hX1⟩ := hH.grow0 hb1
  have hlt0 : ∀ k, K.Z k ∨ K.Y k → k < K.w.heap.size := hH.lt
  -- what is so between two rounds, and behind a round that has left
  obtain ⟨J, hJ⟩ : ∃ J : Nat → World → Prop, J = fun i W => ∃ K2 H2, K2.w = W ∧ Ext K H K2 H2 ∧ HRel K2 H2 ∧ W.heap[K.w.heap.size + 1]? = some (.loop (rec .ready none)) ∧ W.heap[K.w.heap.size]? = some (.deferred (some [])) ∧
      ¬ K2.Z K.w.heap.size ∧ ¬ K2.Z (K.w.heap.size + 1) ∧ rngRun ex p pa pb env (xs.drop i) H2 = some (x, env', H') := ⟨_, rfl⟩
  obtain ⟨Jx, hJx⟩ : ∃ Jx : World → Prop, Jx = fun W => ∃ K2, K2.w = W ∧ Ext K H K2 H' ∧ HRel K2 H' ∧ W.heap[K.w.heap.size + 1]? = some (.loop (rec .done x.code)) ∧ W.heap[K.w.heap.size]? = some (.deferred (some [])) ∧
      ¬ K2.Z K.w.heap.size ∧ ¬ K2.Z (K.w.heap.size + 1) ∧ env' = env ∧ x ≠ .normal := ⟨_, rfl⟩
  have ynot : ∀ {K2 : KW} {H2 : Hp}, Ext K H K2 H2 → ¬ K2.Y K.w.heap.size ∧ ¬ K2.Y (K.w.heap.size + 1) := fun hX => ⟨fun y => by have := hlt0 _ (.inr (hX.yb _ y)); omega, fun y => by have := hlt0 _ (.inr (hX.yb _ y)); omega⟩
  have hget : ∀ {W W' : World} {k : Nat} {o : Obj}, Below W.heap.size W W' → W.heap[k]? = some o → W'.heap[k]? = some o := fun hb hk => (hb.block _ (Array.getElem?_eq_some_iff.1 hk).1).trans hk
  have zkeep : ∀ {K2 K3 : KW} {H2 H3 : Hp} {k : Nat} {o : Obj}, Ext K2 H2 K3 H3 → K2.w.heap[k]? = some o → ¬ K2.Z k → ¬ K3.Z k := fun hX hk hz hz3 => by
    have hk' := (Array.getElem?_eq_some_iff.1 hk).1
    rcases hX.zb _ hz3 with h | h
    · exact hz h
    · omega
  refine ⟨K.w.heap.size + 1, [{ target := .collected K.w.heap.size, args := #[] }], W1, { target := .fn (.func gf) cs', args := #[.func (.yield (K.w.heap.size + 1)) #[] #[]] }, W1, gf,
    #[.func (.yield (K.w.heap.size + 1)) #[] #[]] ++ cs', W1, ?_, ?_, fun _ _ => trivial, ?_, (fun h => by cases h), ?_⟩
  · rw [← hW1, hrec]; exact run_enterLoop_outer _ _ _ _ _
  · simp only [resolve, hgv]
    simp [go_sem]
  · simp [invoke, go_sem, run_callFunc_in hin]
  refine (hseq cs' (K.w.heap.size + 1) J Jx W1 ?_ ?_ ?_ ?_ ?_).mono ?_
  · intro i W hj
    rw [hJ] at hj
    obtain ⟨K2, H2, hw, hX, hH2, _⟩ := hj
    exact ⟨K2, H2, hw, hH2, hcs.mono hX.le⟩
  · intro i W W' hj hb
    rw [hJ] at hj ⊢
    obtain ⟨K2, H2, rfl, hX, hH2, hl, hd, hz1, hz2, hr⟩ := hj
    obtain ⟨hH3, hX3⟩ := hH2.grow0 hb
    exact ⟨_, H2, rfl, hX.trans hX3, hH3, hget hb hl, hget hb hd, hz1, hz2, hr⟩
  · intro W W' hj hb
    rw [hJx] at hj ⊢
    obtain ⟨K2, rfl, hX, hH2, hl, hd, hz1, hz2, hr⟩ := hj
    obtain ⟨hH3, hX3⟩ := hH2.grow0 hb
    exact ⟨_, rfl, hX.trans hX3, hH3, hget hb hl, hget hb hd, hz1, hz2, hr⟩
  · intro i hi W hj
    rw [hJ] at hj
    obtain ⟨K2, H2, rfl, hX, hH2, hl, hd, hz1, hz2, hr⟩ := hj
    rw [List.drop_eq_getElem_cons hi] at hr
    obtain ⟨e1, H3, y, e2, H4, hr1, hr2, hr3⟩ := rngRun_cons hr
    have hy := run_yield (P := P) (args := #[.int .i64 xs[i]]) hl (by rw [hrec]; rfl)
    rw [hrec] at hy
    refine ⟨fn, _, a', b', hy, roundIn_of_wpIn hfn ?_⟩
    have hE2 : ERel K2 N ((p, PV.int .i64 xs[i]) :: env) { tmps := (#[p].zip #[Go.Value.int .i64 xs[i]]).foldl (fun t (p, v) => t.setIfInBounds p v) a.tmps, defers := [] } := by
      have h1 := (hE.mono hX.le).put (d := some p) (fun y hy => by cases hy; exact hpN) (v := .int .i64 xs[i]) (rv := .int .i64 xs[i]) (by rfl)
      have hz : (#[p].zip #[Go.Value.int .i64 xs[i]]).foldl (fun t (p, v) => t.setIfInBounds p v) a.tmps = a.tmps.setIfInBounds p (.int .i64 xs[i]) := by simp
      rw [hz]
      exact ⟨h1.size, h1.slot⟩
    refine hex (some (K.w.heap.size + 1)) K2.w.heap.size N pa a' K2 H2 _ _ .normal e1 H3 (.inr hna) hca hH2 hE2 ⟨Nat.le_refl _, (show MarksL _ _ [] from trivial)⟩ hr1 _ (fun K3 a3 hX3 hH3 hE3 hM3 => ?_)
    have hXX3 := hX.trans hX3
    have hl3 : K3.w.heap[K.w.heap.size + 1]? = some (.loop (rec .ready none)) := (hX3.frame _ (Array.getElem?_eq_some_iff.1 hl).1 (hH2.notCells hl (by intro c e f q; cases q) (by intro es c q; cases q))).trans hl
    have hd3 : K3.w.heap[K.w.heap.size]? = some (.deferred (some [])) := (hX3.frame _ (Array.getElem?_eq_some_iff.1 hd).1 (hH2.notCells hd (by intro c e f q; cases q) (by intro es c q; cases q))).trans hd
    have hz31 := zkeep hX3 hd hz1
    have hz32 := zkeep hX3 hl hz2
    refine ⟨_, run_beginRound hl3 (by rw [hrec]), ?_⟩
    have hle3 := KW.putO_le (K := K3) (r := K.w.heap.size + 1) (o := .loop { rec .ready none with state := .busy }) hz32 (ynot hXX3).2 (by rw [hl3]; intro es c q; cases q)
    have hH3' := hH3.putO (o := .loop { rec .ready none with state := .busy }) hz32 (ynot hXX3).2 hl3 (by intro c e f q; cases q) (by intro es c q; cases q)
    have hX3' := hXX3.putO (r := K.w.heap.size + 1) (o := .loop { rec .ready none with state := .busy }) hz32 (ynot hXX3).2 (by omega) (by rw [hl3]; intro es c q; cases q)
    have hl3' : (K3.putO (K.w.heap.size + 1) (.loop { rec .ready none with state := .busy })).w.heap[K.w.heap.size + 1]? = some (.loop { rec .ready none with state := .busy }) := World.putObj_heap_same (Array.getElem?_eq_some_iff.1 hl3).1
    have hd3' : (K3.putO (K.w.heap.size + 1) (.loop { rec .ready none with state := .busy })).w.heap[K.w.heap.size]? = some (.deferred (some [])) := (World.putObj_heap_other (by omega)).trans hd3
    refine hex (some (K.w.heap.size + 1)) K2.w.heap.size N pb b' (K3.putO (K.w.heap.size + 1) (.loop { rec .ready none with state := .busy })) H3 e1 a3 y e2 H4 (.inr hnb) hcb hH3' (hE3.mono hle3) ?_ hr2 _ (fun K4 a4 hX4 hH4 hE4 _ => ?_)
    · refine ⟨by have := hM3.1; simpa [KW.putO] using this, hM3.2.putO (Nat.lt_of_succ_le ?_)⟩
      exact Nat.succ_le_of_lt (Array.getElem?_eq_some_iff.1 hl).1
    have hXX4 := hX3'.trans hX4
    have hl4 : K4.w.heap[K.w.heap.size + 1]? = some (.loop { rec .ready none with state := .busy }) := (hX4.frame _ (Array.getElem?_eq_some_iff.1 hl3').1 (hH3'.notCells hl3' (by intro c e f q; cases q) (by intro es c q; cases q))).trans hl3'
    have hd4 : K4.w.heap[K.w.heap.size]? = some (.deferred (some [])) := (hX4.frame _ (Array.getElem?_eq_some_iff.1 hd3').1 (hH3'.notCells hd3' (by intro c e f q; cases q) (by intro es c q; cases q))).trans hd3'
    have hz41 := zkeep hX4 hd3' hz31
    have hz42 := zkeep hX4 hl3' hz32
    have fin : ∀ (jump : Option Code), (Instr.endRound (K.w.heap.size + 1) jump).run P K4.w = .ok (.bool jump.isNone) (K4.putO (K.w.heap.size + 1) (.loop (rec (if jump.isNone then .ready else .done) jump))).w ∧
        Ext K H (K4.putO (K.w.heap.size + 1) (.loop (rec (if jump.isNone then .ready else .done) jump))) H4 ∧ HRel (K4.putO (K.w.heap.size + 1) (.loop (rec (if jump.isNone then .ready else .done) jump))) H4 ∧
        (K4.putO (K.w.heap.size + 1) (.loop (rec (if jump.isNone then .ready else .done) jump))).w.heap[K.w.heap.size + 1]? = some (.loop (rec (if jump.isNone then .ready else .done) jump)) ∧
        (K4.putO (K.w.heap.size + 1) (.loop (rec (if jump.isNone then .ready else .done) jump))).w.heap[K.w.heap.size]? = some (.deferred (some [])) := fun jump => by
      have := run_endRound (P := P) jump hl4
      rw [hrec] at this
      exact ⟨by rw [hrec]; exact this, hXX4.putO hz42 (ynot hXX4).2 (by omega) (by rw [hl4]; intro es c q; cases q), hH4.putO hz42 (ynot hXX4).2 hl4 (by intro c e f q; cases q) (by intro es c q; cases q), World.putObj_heap_same (Array.getElem?_eq_some_iff.1 hl4).1, (World.putObj_heap_other (by omega)).trans hd4⟩
    cases y with
    | normal =>
      obtain ⟨f1, f2, f3, f4, f5⟩ := fin none
      refine ⟨_, _, f1, .inl ⟨rfl, ?_⟩⟩
      rw [hJ]
      rcases hr3 with ⟨_, hr3⟩ | ⟨hr3, _⟩
      · exact ⟨_, H4, rfl, f2, f3, f4, f5, hz41, hz42, hr3⟩
      · exact absurd rfl hr3
    | exit id =>
      obtain ⟨f1, f2, f3, f4, f5⟩ := fin (some (.exit id))
      refine ⟨_, _, f1, .inr ⟨rfl, ?_⟩⟩
      rw [hJx]
      rcases hr3 with ⟨hr3, _⟩ | ⟨_, hr3⟩
      · cases hr3
      · simp only [Prod.mk.injEq] at hr3
        obtain ⟨rfl, rfl, rfl⟩ := hr3
        exact ⟨_, rfl, f2, f3, f4, f5, hz41, hz42, rfl, by simp⟩
    | ret =>
      obtain ⟨f1, f2, f3, f4, f5⟩ := fin (some .ret)
      refine ⟨_, _, f1, .inr ⟨rfl, ?_⟩⟩
      rw [hJx]
      rcases hr3 with ⟨hr3, _⟩ | ⟨_, hr3⟩
      · cases hr3
      · simp only [Prod.mk.injEq] at hr3
        obtain ⟨rfl, rfl, rfl⟩ := hr3
        exact ⟨_, rfl, f2, f3, f4, f5, hz41, hz42, rfl, by simp⟩
  · rw [hJ]
    exact ⟨_, H, rfl, hX1, hH1, hL1, hD1, fun z => by have := hlt0 _ (.inl z); omega, fun z => by have := hlt0 _ (.inl z); omega, he⟩
  · have done : ∀ (K2 : KW) (st : LoopState) (pe : Option Code), st ≠ .busy → pe = x.code → env' = env → Ext K H K2 H' → HRel K2 H' → K2.w.heap[K.w.heap.size + 1]? = some (.loop (rec st pe)) → K2.w.heap[K.w.heap.size]? = some (.deferred (some [])) →
        ¬ K2.Z K.w.heap.size → ¬ K2.Z (K.w.heap.size + 1) → rangePost (fc none) 0 P (K.w.heap.size + 1) Q { a with defers := [{ target := .collected K.w.heap.size, args := #[] }] ++ a.defers } (.returned (.bool true)) K2.w := by
      intro K2 st pe hst hpe henv hX hH2 hl hd hz1 hz2
      have hend := run_endLoop (P := P) hl (by rw [hrec]; exact hst)
      refine ⟨_, _, hend, ?_⟩
      have hle := KW.putO_le (K := K2) (r := K.w.heap.size + 1) (o := .loop { rec st pe with state := .exhausted }) hz2 (ynot hX).2 (by rw [hl]; intro es c q; cases q)
      have hH5 := hH2.putO (o := .loop { rec st pe with state := .exhausted }) hz2 (ynot hX).2 hl (by intro c e f q; cases q) (by intro es c q; cases q)
      have hX5 := hX.putO (r := K.w.heap.size + 1) (o := .loop { rec st pe with state := .exhausted }) hz2 (ynot hX).2 (by omega) (by rw [hl]; intro es c q; cases q)
      have hfin : Q x.to { a with defers := [{ target := .collected K.w.heap.size, args := #[] }] ++ a.defers } (K2.putO (K.w.heap.size + 1) (.loop { rec st pe with state := .exhausted })).w := by
        refine hQ _ _ hX5 hH5 ?_ ?_
        · rw [henv]
          have := hE.mono (hX.le.trans hle)
          exact ⟨this.size, this.slot⟩
        · have hm5 := hM.ext hH hX5
          refine ⟨hm5.1, ⟨K.w.heap.size, rfl, hM.1, (World.putObj_heap_other (by omega)).trans hd, hz1, (ynot hX).1, ?_⟩, hm5.2⟩
          have hne : ∀ ds : List Deferred, MarksL B K ds → ∀ d' ∈ ds, d'.target ≠ .collected K.w.heap.size := by
            intro ds
            induction ds with
            | nil => intro _ d' hd'; cases hd'
            | cons e es ih =>
              rintro ⟨⟨D', g1, g2, g3, _⟩, hm'⟩ d' hd'
              rcases List.mem_cons.1 hd' with rfl | hd'
              · rw [g1]
                intro hq
                have := (Array.getElem?_eq_some_iff.1 g3).1
                cases hq
                omega
              · exact ih hm' d' hd'
          exact hne _ hM.2
      subst hpe
      cases x with
      | normal => rw [hrec] at hfin ⊢; exact hfin
      | exit id => rw [hrec] at hfin ⊢; exact wpIn_exit hfin
      | ret => rw [hrec] at hfin ⊢; exact wpIn_ret hfin
    rintro e W2 ⟨⟨v, rfl⟩, hj | hj⟩
    · rw [hJ] at hj
      obtain ⟨K2, H2, rfl, hX, hH2, hl, hd, hz1, hz2, hr⟩ := hj
      rw [List.drop_length] at hr
      simp only [rngRun, Option.some.injEq, Prod.mk.injEq] at hr
      obtain ⟨rfl, rfl, rfl⟩ := hr
      exact done K2 .ready none (by simp) rfl rfl hX hH2 hl hd hz1 hz2
    · rw [hJx] at hj
      obtain ⟨K2, rfl, hX, hH2, hl, hd, hz1, hz2, henv, _⟩ := hj
      exact done K2 .done x.code (by simp) rfl henv hX hH2 hl hd hz1 hz2
/-! ### A range over a map -/
theorem seq_okC (hcp : ∀ f args r, callP T ex f args = some r → PureOk P f args r) (hco : ∀ f args H r H', callO T ex f args H = some (r, H') → OpenOk P f args H r H') (hm : MethOk P T.meth) {ro : Option Nat} {N : Nat} {ops : Array Oper} {tail : List Nat} {Q : Exit → Act → World → Prop} :
    ∀ (os : List Oper) (rs : List ROp) (i : Nat) (K : KW) (H : Hp) (env : Env) (a : Act) (env' : Env) (H' : Hp), (∀ j o, os[j]? = some o → ops[i + j]? = some o) → ropsOk P N ops os rs = true → HRel K H → ERel K N env a →
      runSeq (callP T ex) (callO T ex) fzB T.meth rs env H = some (env', H') → (∀ K' a', Ext K H K' H' → HRel K' H' → ERel K' N env' a' → a'.defers = a.defers → wpOpsIn (fc ro) 0 P ops Q tail a' K'.w) →
      wpOpsIn (fc ro) 0 P ops Q ((List.range os.length).map (i + ·) ++ tail) a K.w
  | [], rs, i, K, H, env, a, env', H', hops, hok, hH, hE, he, hQ => by
    cases rs with
    | cons r rs => simp [ropsOk] at hok
    | nil =>
      simp only [runSeq, Option.some.injEq, Prod.mk.injEq] at he
      obtain ⟨rfl, rfl⟩ := he
      simpa using hQ K a (Ext.refl _ _) hH hE rfl
  | o :: os, rs, i, K, H, env, a, env', H', hops, hok, hH, hE, he, hQ => by
    cases rs with
    | nil => simp [ropsOk] at hok
    | cons r rs =>
      simp only [ropsOk, Bool.and_eq_true] at hok
      obtain ⟨hr, hok⟩ := hok
      simp only [ropOk, Bool.and_eq_true, beq_iff_eq] at hr
      obtain ⟨⟨⟨h1, h2⟩, h3⟩, h4⟩ := hr
      have hd : ∀ x, r.dst = some x → x < N := by
        intro x hx
        rw [hx] at h3
        simpa using h3
      have hoi : ops[i]? = some o := by simpa using hops 0 o (by simp)
      have hidx : (List.range (o :: os).length).map (i + ·) ++ tail = i :: ((List.range os.length).map (i + 1 + ·) ++ tail) := by
        rw [List.length_cons, List.range_succ_eq_map, List.map_cons, List.map_map, Nat.add_zero, List.cons_append]
        congr 2
        apply List.map_congr_left
        intro j _
        simp; omega
      rw [hidx, wpOpsIn_cons]
      unfold wpOpIn
      simp only [hoi]
      simp only [runSeq, Option.bind_eq_some_iff] at he
      obtain ⟨b, hb, he⟩ := he
      have hw := wanted_ok h4 hE hb
      have hops' : ∀ j o', os[j]? = some o' → ops[i + 1 + j]? = some o' := fun j o' hj => by
        have := hops (j + 1) o' (by simpa using hj)
        rwa [show i + (j + 1) = i + 1 + j from by omega] at this
      cases b
      · rw [hw]
        simp only [Bool.false_eq_true, if_false] at he ⊢
        rw [h2]
        exact ⟨fun _ _ => trivial, seq_okC hcp hco hm os rs (i + 1) K H _ _ env' H' hops' hok hH (hE.put hd (rep_skip K)) he (fun K' a' h1 h2 h3 h4 => hQ K' a' h1 h2 h3 (h4.trans (put_defers _ _ _)))⟩
      · rw [hw]
        simp only [if_true, Option.bind_eq_some_iff] at he ⊢
        obtain ⟨⟨v, H1⟩, hv, he⟩ := he
        refine evOp_ok hcp hco fzB_ok hm h1 hE hH hv ro _ _ (fun K1 rv hX hH1 hrv => ?_)
        rw [h2]
        exact seq_okC hcp hco hm os rs (i + 1) K1 H1 _ _ env' H' hops' hok hH1 ((hE.mono hX.le).put hd hrv) he (fun K' a' hX' h2 h3 h4 => hQ K' a' (hX.trans hX') h2 h3 (h4.trans (put_defers _ _ _)))
theorem wpOp_value {ro : Option Nat} {ops : Array Oper} {i : Nat} {rest : List Nat} {o : Oper} {a : Act} {w w' : World} {rv : Value} {Q : Exit → Act → World → Prop} (ho : ops[i]? = some o) (hg : o.guard = none) (hr : (execOp a.eval o).run P w = .ok (.value rv) w') (h : wpOpsIn (fc ro) 0 P ops Q rest (a.put o.dst rv) w') :
    wpOpsIn (fc ro) 0 P ops Q (i :: rest) a w := by
  rw [wpOpsIn_cons]
  unfold wpOpIn
  simp only [ho]
  have hw : Region.wanted o (yielded ops a.tmps) = true := by simp [Region.wanted, hg]
  rw [if_pos hw]
  refine ⟨fun _ _ => trivial, ?_⟩
  rw [semAt_ok hr (by intro d q; cases q), hr]
  exact h
theorem mrounds_app {M : Mr} {b : Nat} {body : PCode} : ∀ {p q : List (PV × PV)} {e : Env} {H : Hp} {r : Env × Hp}, mrounds T ex M b body (p ++ q) e H = some r → ∃ s, mrounds T ex M b body p e H = some s ∧ mrounds T ex M b body q s.1 s.2 = some r
  | [], q, e, H, r, h => by
    rw [List.nil_append] at h
    have : PV.beq (get e M.it) (.mptr b 0 0) = true := by
      cases q with
      | nil => simp only [mrounds] at h; split at h; assumption; cases h
      | cons kv q =>
        simp only [mrounds, Option.bind_eq_some_iff] at h
        obtain ⟨_, h, _⟩ := h
        unfold mround at h
        split at h
        · assumption
        · cases h
    exact ⟨(e, H), by simp only [mrounds]; rw [if_pos this], h⟩
  | kv :: p, q, e, H, r, h => by
    simp only [List.cons_append, mrounds, Option.bind_eq_some_iff] at h
    obtain ⟨s, h1, h2⟩ := h
    obtain ⟨u, h3, h4⟩ := mrounds_app h2
    exact ⟨u, by simp only [mrounds, h1, Option.bind_some]; exact h3, h4⟩
theorem mrounds_nil {M : Mr} {b : Nat} {body : PCode} {e : Env} {H : Hp} {r : Env × Hp} (h : mrounds T ex M b body [] e H = some r) : get e M.it = .mptr b 0 0 ∧ r = (e, H) := by
  simp only [mrounds] at h
  split at h
  · rename_i hb
    exact ⟨PV.beq_eq _ _ hb, (Option.some.inj h).symm⟩
  · cases h
theorem mrounds_one {M : Mr} {b : Nat} {body : PCode} {kv : PV × PV} {e : Env} {H : Hp} {r : Env × Hp} {q : List (PV × PV)} (h : mrounds T ex M b body (kv :: q) e H = some r) : ∃ s, mround T ex M b body kv e H = some s ∧ mrounds T ex M b body [kv] e H = some s ∧ mrounds T ex M b body q s.1 s.2 = some r := by
  obtain ⟨s, h1, h2⟩ := mrounds_app (p := [kv]) (q := q) h
  have h1' := h1
  simp only [mrounds, Option.bind_eq_some_iff] at h1
  obtain ⟨u, h3, h4⟩ := h1
  obtain ⟨_, rfl⟩ := mrounds_nil (T := T) (ex := ex) (M := M) (b := b) (body := body) (by simpa only [mrounds] using h4)
  exact ⟨_, h3, h1', h2⟩
theorem HRel.iter {K : KW} {H : Hp} (hH : HRel K H) {r : Nat} {o0 : Obj} {w' : World} (hos : w'.os = K.w.os) (ht : w'.tape = K.w.tape) (hou : w'.output = K.w.output) (hsz : w'.heap.size = K.w.heap.size) (hoth : ∀ i, i ≠ r → w'.heap[i]? = K.w.heap[i]?)
    (hz : ¬ K.Z r) (hy : ¬ K.Y r) (hr : K.w.heap[r]? = some o0) (ho : ∀ c e f, o0 ≠ .cells c e f) (hom : ∀ es c, o0 ≠ .map es c) :
    HRel ⟨w', K.Z, K.Y, K.μ⟩ H ∧ K.Le ⟨w', K.Z, K.Y, K.μ⟩ := by
  have hle : K.Le ⟨w', K.Z, K.Y, K.μ⟩ := ⟨hos, ht, hou, Nat.le_of_eq hsz.symm, fun g hg => hoth g (by rintro rfl; exact hg.elim hz hy), fun _ h => h, fun _ h => h, fun _ _ _ h => h, MapsKeep.of_same fun g es c hg => hoth g (by rintro rfl; rw [hr] at hg; exact hom _ _ (Option.some.inj hg))⟩
  refine ⟨⟨?_, hH.inj, hH.fresh, fun g hg => by show g < w'.heap.size; rw [hsz]; exact hH.lt g hg⟩, hle⟩
  intro b B hb
  rcases hH.blk b B hb with h | ⟨m, g, es, cl, hx, hp, hg0, hm, hh, hz', hy', hmp⟩ | ⟨g, cur, hp, hm, hh, hz', hy', hl, hrr, h1⟩
  · exact .inl h
  · have hne : g ≠ r := by
      rintro rfl
      rw [hr, Option.some.injEq] at hh
      exact hom _ _ hh
    exact .inr <| .inl ⟨m, g, es, cl, hx, hp, hg0, hm, (hoth g hne).trans hh, hz', hy', hmp.mono hle⟩
  · have hne : g ≠ r := by
      rintro rfl
      rw [hr, Option.some.injEq] at hh
      exact ho _ _ _ hh
    exact .inr <| .inr ⟨g, cur, hp, hm, (hoth g hne).trans hh, hz', hy', hl, hrr.mono hle, h1⟩
theorem HRel.iterNew {K : KW} {H : Hp} (hH : HRel K H) (o0 : Obj) :
    HRel ⟨K.w.alloc o0, K.Z, K.Y, muSet K.μ H.length 0 (K.w.heap.size, 0)⟩ (H ++ [dead]) ∧ Ext K H ⟨K.w.alloc o0, K.Z, K.Y, muSet K.μ H.length 0 (K.w.heap.size, 0)⟩ (H ++ [dead]) := by
  obtain ⟨h1, h2⟩ := hH.grow0 ((Below.refl _ K.w).alloc (Nat.le_refl _) o0)
  have hfr : ∀ gen, K.μ H.length gen = none := fun gen => hH.fresh _ gen (fun B hB => by rw [List.getElem?_eq_none (Nat.le_refl _)] at hB; cases hB)
  have hmu : ∀ b n p, K.μ b n = some p → muSet K.μ H.length 0 (K.w.heap.size, 0) b n = some p := fun b n p hp => (muSet_other _ _ _ _ _ _ (by
    rintro ⟨rfl, rfl⟩
    rw [hfr] at hp; cases hp)).trans hp
  have hget : ∀ b B, (H ++ [dead])[b]? = some B → H[b]? = some B ∨ (b = H.length ∧ B = dead) := by
    intro b B hb
    by_cases hl : b < H.length
    · rw [List.getElem?_append_left hl] at hb; exact .inl hb
    · rw [List.getElem?_append_right (by omega)] at hb
      have : b - H.length = 0 := by
        have := (List.getElem?_eq_some_iff.1 hb).1
        simp at this; omega
      rw [this] at hb
      exact .inr ⟨by omega, (Option.some.inj hb).symm⟩
  have hold : ∀ b B, H[b]? = some B → muSet K.μ H.length 0 (K.w.heap.size, 0) b B.gen = K.μ b B.gen := fun b B hb => muSet_other _ _ _ _ _ _ (by
    rintro ⟨rfl, _⟩
    rw [List.getElem?_eq_none (Nat.le_refl _)] at hb; cases hb)
  have hnew : muSet K.μ H.length 0 (K.w.heap.size, 0) H.length 1 = none := (muSet_other _ _ _ _ _ _ (by rintro ⟨_, h⟩; cases h)).trans (hfr 1)
  have hle : (⟨K.w.alloc o0, K.Z, K.Y, K.μ⟩ : KW).Le ⟨K.w.alloc o0, K.Z, K.Y, muSet K.μ H.length 0 (K.w.heap.size, 0)⟩ := ⟨rfl, rfl, rfl, Nat.le_refl _, fun _ _ => rfl, fun _ h => h, fun _ h => h, hmu, MapsKeep.refl _⟩
  refine ⟨⟨?_, ?_, ?_, h1.lt⟩, ⟨h2.le.trans hle, h2.frame, ?_, h2.zb, h2.yb⟩⟩
  · intro b B hb
    rcases hget b B hb with hb | ⟨rfl, rfl⟩
    · rcases h1.blk b B hb with ⟨q1, q2, q3⟩ | ⟨m, g, es, cl, hx, hp, hg0, hm, hh, hz', hy', hmp⟩ | ⟨g, cur, hp, hm, hh, hz', hy', hl, hrr, q1⟩
      · exact .inl ⟨q1, q2, by show muSet _ _ _ _ _ _ = _; rw [hold b B hb]; exact q3⟩
      · exact .inr <| .inl ⟨m, g, es, cl, hx, hp, hg0, (hold b B hb).trans hm, hh, hz', hy', hmp.mono hle⟩
      · exact .inr <| .inr ⟨g, cur, hp, (hold b B hb).trans hm, hh, hz', hy', hl, hrr.mono hle, q1⟩
    · exact .inl ⟨.inr rfl, rfl, hnew⟩
  · intro b b' B B' g n n' hb hb' hm hm'
    rcases hget b B hb with hb | ⟨rfl, rfl⟩
    · rcases hget b' B' hb' with hb' | ⟨rfl, rfl⟩
      · exact hH.inj b b' B B' g n n' hb hb' ((hold b B hb).symm.trans hm) ((hold b' B' hb').symm.trans hm')
      · rw [show (dead).gen = 1 from rfl] at hm'
        exact absurd (hm'.symm.trans hnew) (by simp)
    · rw [show (dead).gen = 1 from rfl] at hm
      exact absurd (hm.symm.trans hnew) (by simp)
  · intro b gen hg
    by_cases e : b = H.length
    · subst e
      have := hg dead (by rw [List.getElem?_append_right (Nat.le_refl _)]; simp)
      exact (muSet_other _ _ _ _ _ _ (by rintro ⟨_, q⟩; rw [q] at this; cases this)).trans (hfr gen)
    · refine (muSet_other _ _ _ _ _ _ (by rintro ⟨q, _⟩; exact e q)).trans (hH.fresh b gen (fun B hB => hg B ?_))
      rw [List.getElem?_append_left (List.getElem?_eq_some_iff.1 hB).1]; exact hB
  · rintro g ⟨b, B, n, hb, hm⟩
    rcases hget b B hb with hb | ⟨rfl, rfl⟩
    · exact .inl ⟨b, B, n, hb, (hold b B hb).symm.trans hm⟩
    · rw [show (dead).gen = 1 from rfl] at hm
      exact absurd (hm.symm.trans hnew) (by simp)
abbrev Tr := MapEntry × (PV × PV)
theorem trips {K : KW} {kn : Option Nat} : ∀ {es : List MapEntry} {ks vs : List PV}, es.map (·.key) = ks.map kval → (∀ k ∈ ks, keyB kn k = true) → RepL K vs (es.map (·.val)) →
    ∃ T : List Tr, T.map (·.1) = es ∧ T.map (·.2) = ks.zip vs ∧ ∀ t ∈ T, Rep K t.2.1 t.1.key ∧ Rep K t.2.2 t.1.val
  | [], ks, vs, h1, _, h3 => by
    have : ks = [] := by simpa using h1.symm
    subst this
    exact ⟨[], rfl, by simp, fun t ht => by cases ht⟩
  | e :: es, [], vs, h1, _, _ => by simp at h1
  | e :: es, k :: ks, [], h1, _, h3 => by simp [RepL] at h3
  | e :: es, k :: ks, v :: vs, h1, h2, h3 => by
    simp only [List.map_cons, List.cons.injEq] at h1
    obtain ⟨y, ys, h4, h5, h6⟩ := h3
    simp only [List.map_cons, List.cons.injEq] at h4
    obtain ⟨T, t1, t2, t3⟩ := trips h1.2 (fun k hk => h2 k (by simp [hk])) (by rw [h4.2]; exact h6)
    refine ⟨(e, (k, v)) :: T, by simp [t1], by simp [t2], fun t ht => ?_⟩
    rcases List.mem_cons.1 ht with rfl | ht
    · exact ⟨by show Rep K k e.key; rw [h1.1]; exact kval_rep (h2 k (by simp)), by show Rep K v e.val; rw [h4.1]; exact h5⟩
    · exact t3 t ht
def ItOk (P : Program) (T : List Tr) (r : Nat) (o : List Tr → Obj) (mp : World → Prop) : Prop :=
  ∀ (q : List Tr) (w : World) (ty : TypeId), (∃ rem, (q ++ rem).Perm T) → w.heap[r]? = some (o q) → mp w →
    ((∀ rem, (q ++ rem).Perm T → rem = []) ∧ (Instr.next (.pointer (some ⟨r, 0, none⟩)) false ty).run P w = .ok (.tuple #[.bool false]) w) ∨
    ∃ (t : Tr) (w' : World), (∀ rem, (q ++ rem).Perm T → t ∈ rem) ∧ (Instr.next (.pointer (some ⟨r, 0, none⟩)) false ty).run P w = .ok (.tuple #[.bool true, t.1.key, t.1.val]) w' ∧ w'.os = w.os ∧ w'.tape = w.tape ∧ w'.output = w.output ∧ w'.heap.size = w.heap.size ∧
      (∀ i, i ≠ r → w'.heap[i]? = w.heap[i]?) ∧ w'.heap[r]? = some (o (q ++ [t])) ∧ (Instr.entry (.pointer (some ⟨r, 0, none⟩))).run P w' = .ok (.tuple #[t.1.key, t.1.val]) w'
theorem itOk_nil {r : Nat} : ItOk P [] r (fun _ => .mapIter none 0 #[] 0) (fun _ => True) := by
  intro q w ty ⟨rem, hp⟩ hr _
  refine .inl ⟨fun rem hp => ?_, ?_⟩
  · have := hp.length_eq
    simp at this
    exact this.2
  · simp [Instr.next, getObj, Sem.run, hr, Result.andThen]
theorem itOk_map {T : List Tr} {r g : Nat} {es : Array MapEntry} {clock : Nat} {es' : List MapEntry} (hst : Stamped es clock) (hp : es.toList.Perm es') (hT : T.map (·.1) = es') (hne : g ≠ r) :
    ItOk P T r (fun q => .mapIter (some g) clock (q.map (·.1.born)).toArray clock) (fun w => w.heap[g]? = some (.map es clock)) := by
  intro q w ty ⟨rem0, hp0⟩ hr hg
  have hnd : (es.toList.map (·.born)).Nodup := ((Go.MapKept.stamped_iff es clock).1 hst).2.1
  have hTnd : (T.map (·.1.born)).Nodup := by
    have h1 : T.map (·.1.born) = es'.map (·.born) := by rw [← hT, List.map_map]; rfl
    rw [h1]
    exact (hp.map (·.born)).nodup_iff.1 hnd
  have hq : ∀ rem, (q ++ rem).Perm T → (q.map (·.1.born) ++ rem.map (·.1.born)).Nodup := fun rem h => by
    rw [← List.map_append]
    exact (h.map (·.1.born)).nodup_iff.2 hTnd
  rcases run_next_at (P := P) w ty r g clock clock (q.map (·.1.born)).toArray es clock hr hg hst.1 (Nat.le_refl _) with ⟨h0, hrun⟩ | ⟨e, hel, w1, hal, hrun⟩
  · refine .inl ⟨fun rem hp1 => ?_, hrun⟩
    cases rem with
    | nil => rfl
    | cons t rem =>
      exfalso
      have ht : t.1 ∈ es.toList := hp.mem_iff.2 (by rw [← hT]; exact List.mem_map.2 ⟨t, hp1.mem_iff.1 (by simp), rfl⟩)
      have hs := all_seen es _ h0 t.1 ht
      have h5 : t.1.born ∈ q.map (·.1.born) := by simpa using hs
      have hn := hq _ hp1
      rw [List.nodup_append] at hn
      exact hn.2.2 t.1.born h5 t.1.born (by simp) rfl
  · obtain ⟨hem, hes⟩ := mem_left hel
    have : e ∈ T.map (·.1) := by rw [hT]; exact hp.mem_iff.1 hem
    obtain ⟨t, ht, rfl⟩ := List.mem_map.1 this
    have hr1 : w1.heap[r]? = some (.mapIter (some g) clock (q.map (·.1.born)).toArray clock) := by rcases hal with rfl | rfl <;> exact hr
    have hset := Go.MapKept.heap_set (o' := .mapIter (some g) clock ((q.map (·.1.born)).toArray.push t.1.born) clock) hr1
    have hoth : ∀ i, i ≠ r → (setBlock w1 r (.mapIter (some g) clock ((q.map (·.1.born)).toArray.push t.1.born) clock)).heap[i]? = w.heap[i]? := fun i hi => (hset.2 i hi).trans (by rcases hal with rfl | rfl <;> rfl)
    refine .inr ⟨t, _, fun rem hp1 => ?_, hrun, ?_, ?_, ?_, ?_, hoth, ?_, ?_⟩
    · have : t ∈ q ++ rem := hp1.mem_iff.2 ht
      rcases List.mem_append.1 this with h | h
      · simp at hes
        exact absurd rfl (hes _ _ _ h)
      · exact h
    · rcases hal with rfl | rfl <;> rfl
    · rcases hal with rfl | rfl <;> rfl
    · rcases hal with rfl | rfl <;> rfl
    · rcases hal with rfl | rfl <;> simp [setBlock]
    · show _ = some (Obj.mapIter (some g) clock ((q ++ [t]).map (·.1.born)).toArray clock)
      rw [show (q ++ [t]).map (·.1.born) = q.map (·.1.born) ++ [t.1.born] by simp]
      rw [show ((q.map (·.1.born)) ++ [t.1.born]).toArray = (q.map (·.1.born)).toArray.push t.1.born by simp]
      exact hset.1
    · exact run_entry_at _ r g clock _ es clock t.1 hset.1 ((hoth g hne).trans hg) hem hnd
theorem mopen_spec {K : KW} {H H1 : Hp} {v : PV} {rv : Value} {E : List (PV × PV)} (hH : HRel K H) (hv : Rep K v rv) (h : mopen v H = some (E, H1)) :
    HRel K H1 ∧ Ext K H K H1 ∧ ∃ (T : List Tr), T.map (·.2) = E ∧ (∀ t ∈ T, Rep K t.2.1 t.1.key ∧ Rep K t.2.2 t.1.val) ∧ ((rv = .map none ∧ T = []) ∨
      ∃ g es clock es', rv = .map (some g) ∧ K.w.heap[g]? = some (.map es clock) ∧ Stamped es clock ∧ es.toList.Perm es' ∧ T.map (·.1) = es' ∧ ¬ Live K H1 g) := by
  unfold mopen at h
  split at h
  · simp only [Option.some.injEq, Prod.mk.injEq] at h
    obtain ⟨rfl, rfl⟩ := h
    exact ⟨hH, Ext.refl _ _, [], rfl, (fun t ht => by cases ht), .inl ⟨hv, rfl⟩⟩
  · simp only [Option.some.injEq, Prod.mk.injEq] at h
    obtain ⟨rfl, rfl⟩ := h
    obtain ⟨_, hks, g, es, clock, es', rfl, hs, hh, hst, hp, hk, hvs⟩ := hv
    obtain ⟨T, t1, t2, t3⟩ := trips hk hks hvs
    refine ⟨hH, Ext.refl _ _, T, t2, t3, .inr ⟨g, es, clock, es', rfl, hh, hst, hp, t1, hH.notLive (hs.imp id fun q => q.2)⟩⟩
  · rename_i b
    split at h
    case h_2 => cases h
    rename_i e m hb
    simp only [Option.some.injEq, Prod.mk.injEq] at h
    obtain ⟨rfl, rfl⟩ := h
    obtain ⟨h1, h2, h3⟩ := hH.kill hb
    obtain ⟨g0, n, hmu, rfl⟩ := hv
    rcases hH.blk b _ hb with ⟨_, q, _⟩ | ⟨m', g, es, cl, _, hmp, _, hm, hh, _, _, hk, hst, es', hp, hks, hvs⟩ | ⟨_, _, q, _⟩
    · cases q
    · obtain rfl := Option.some.inj hmp
      rw [hm] at hmu
      obtain ⟨rfl, rfl⟩ : g = g0 ∧ 0 = n := by simpa using hmu
      obtain ⟨T, t1, t2, t3⟩ := trips hks hk hvs
      exact ⟨h1, h2, T, t2, t3, .inr ⟨g, es, cl, es', rfl, hh, hst, hp, t1, h3 g 0 hm⟩⟩
    · cases q
  · cases h
theorem mclose_spec {K0 K : KW} {H0 H1 H H' : Hp} {v : PV} {E : List (PV × PV)} (hH0 : HRel K0 H0) (ho : mopen v H0 = some (E, H1)) (hX : Ext K0 H1 K H) (hH : HRel K H) (h : mclose v H0 H = some H') : HRel K H' ∧ Ext K0 H0 K H' := by
  unfold mopen at ho
  split at ho
  · simp only [Option.some.injEq, Prod.mk.injEq] at ho
    obtain ⟨rfl, rfl⟩ := ho
    simp only [mclose, Option.some.injEq] at h
    subst h
    exact ⟨hH, hX⟩
  · simp only [Option.some.injEq, Prod.mk.injEq] at ho
    obtain ⟨rfl, rfl⟩ := ho
    simp only [mclose, Option.some.injEq] at h
    subst h
    exact ⟨hH, hX⟩
  · rename_i b
    split at ho
    case h_2 => cases ho
    rename_i e m hb
    simp only [Option.some.injEq, Prod.mk.injEq] at ho
    obtain ⟨rfl, rfl⟩ := ho
    simp only [mclose] at h
    split at h
    case isFalse => cases h
    rename_i hd
    rw [hb] at h
    simp only [Option.map_some, Option.some.injEq] at h
    subst h
    exact HRel.revive hH0 hb hX hH (isDead_eq hd)
  · cases ho
theorem MarksL.iter {B : Nat} {K : KW} {w' : World} {r : Nat} {o0 : Obj} (hoth : ∀ i, i ≠ r → w'.heap[i]? = K.w.heap[i]?) (hr : K.w.heap[r]? = some o0) (ho : o0 ≠ .deferred (some [])) : ∀ {ds : List Deferred}, MarksL B K ds → MarksL B ⟨w', K.Z, K.Y, K.μ⟩ ds
  | [], _ => trivial
  | d :: ds, ⟨⟨D, h1, h2, h3, h4, h5, h6⟩, h⟩ => ⟨⟨D, h1, h2, (hoth D (by rintro rfl; rw [hr] at h3; exact ho (Option.some.inj h3))).trans h3, h4, h5, h6⟩, MarksL.iter hoth hr ho h⟩
theorem mrounds_it {M : Mr} {b : Nat} {body : PCode} {l : List (PV × PV)} {e : Env} {H : Hp} {r : Env × Hp} (h : mrounds T ex M b body l e H = some r) : get e M.it = .mptr b 0 0 := by
  cases l with
  | nil => exact (mrounds_nil h).1
  | cons kv q =>
    simp only [mrounds, Option.bind_eq_some_iff] at h
    obtain ⟨_, h, _⟩ := h
    unfold mround at h
    split at h
    · rename_i hb; exact PV.beq_eq _ _ hb
    · cases h
theorem isTmp_eq {x : Operand} {t : Nat} (h : isTmp x t = true) : x = .tmp t := by
  unfold isTmp at h
  split at h
  · simp only [beq_iff_eq] at h; rw [h]
  · cases h
theorem mrng_ok (hT : TOk P T) (hex : ExOk P ex) {ro : Option Nat} {B N : Nat} {M : Mr} {pa pb : PCode} {i1 i2 i3 : Nat} {opsR opsN opsE : Array Oper} {X : Operand} {a' b' : Code} {K : KW} {H : Hp} {env : Env} {a : Act} {x : PX} {env' : Env} {H' : Hp}
    (hro : ro = none ∨ (noRng pa = true ∧ noRng pb = true)) (hok : mrOk P N M opsR opsN opsE X = true) (hca : codeOk P N pa a' = true) (hcb : codeOk P N pb b' = true) (hH : HRel K H) (hE : ERel K N env a) (hM : Marks B K a.defers)
    (he : mall T ex M pa pb env H = some (x, env', H')) (Q : Exit → Act → World → Prop) (hQ : ∀ K' a', Ext K H K' H' → HRel K' H' → ERel K' N env' a' → Marks B K' a'.defers → Q x.to a' K'.w) :
    (Code.seq (.seq (.region i1 opsR false) (.block M.id (.loop (.seq (.region i2 opsN false) (.seq (.cond X .skip (.exit M.id)) (.block M.id2 (.seq (.region i3 opsE false) a'))))))) b').wpIn (fc ro) 0 P Q a K.w := by
  unfold mrOk at hok
  simp only [Bool.and_eq_true, decide_eq_true_eq] at hok
  obtain ⟨hR, hropsR, hN, hX, hEn, n1, n2, n3, n4, n5, n6⟩ := hok
  split at hR
  case h_2 => cases hR
  rename_i oR hlast
  obtain ⟨osR, hosR⟩ : ∃ l, l = opsR.toList.dropLast := ⟨_, rfl⟩
  have hRl : opsR.toList = osR ++ [oR] := by obtain ⟨ys, hys⟩ := List.getLast?_eq_some_iff.1 hlast; rw [hosR, hys]; simp
  rw [← hosR] at hropsR
  unfold mrRange at hR
  simp only [Bool.and_eq_true, beq_iff_eq] at hR
  obtain ⟨hR1, hR2, hR3⟩ := hR
  split at hR1
  case h_2 => cases hR1
  rename_i ty xop hopR
  simp only [Bool.and_eq_true] at hR1
  obtain ⟨hR1, hR1m⟩ := hR1
  split at hR1m
  case h_2 => cases hR1m
  rename_i kt vt hund
  unfold mrNext at hN
  split at hN
  case h_2 => cases hN
  rename_i oN oX hNl
  simp only [Bool.and_eq_true, beq_iff_eq] at hN
  obtain ⟨hN1, hN2, hN3, hN4, hN5, hN6⟩ := hN
  split at hN1
  case h_2 => cases hN1
  rename_i xN hopN
  rw [isTmp_eq hN1] at hopN
  split at hN4
  case h_2 => cases hN4
  rename_i xX hopX
  rw [isTmp_eq hN4] at hopX
  obtain rfl := isTmp_eq hX
  unfold mrEntry at hEn
  split at hEn
  case h_2 => cases hEn
  rename_i oE osE hEl
  simp only [Bool.and_eq_true, beq_iff_eq] at hEn
  obtain ⟨hE1', hE2', hE3', hropsE⟩ := hEn
  split at hE1'
  case h_2 => cases hE1'
  rename_i xE hopE
  rw [isTmp_eq hE1'] at hopE
  unfold mall at he
  simp only [Option.bind_eq_some_iff] at he
  obtain ⟨⟨e1, H1⟩, hrs, ⟨E, H2⟩, hop, r0, hf0, he⟩ := he
  dsimp only at hop hf0 he
  split at he
  case isFalse => cases he
  rename_i hall
  simp only [Option.some.injEq] at he
  subst he
  have hfull : ∀ o, o.Perm E → mfull T ex M pa pb H.length e1 H1 H2 o = some (x, env', H') := fun o ho => by
    have := List.all_eq_true.1 hall o (mem_perms.2 ho)
    split at this
    · rename_i r' hr'; rw [hr', beqX_eq this]
    · cases this
  refine wpIn_seq (wpIn_seq (wpIn_region ?_))
  have hidx : List.range opsR.size = (List.range osR.length).map (0 + ·) ++ [osR.length] := by
    rw [← Array.length_toList, hRl, List.length_append, List.length_singleton, List.range_succ]; simp
  rw [hidx]
  refine seq_okC (callP_ok hT hex) (callO_ok hT hex) hT.meth osR M.rs 0 K H env a e1 H1 ?_ hropsR hH hE hrs (fun K1 a1 hX1 hH1 hE1 hd1 => ?_)
  · intro j o hj
    rw [Nat.zero_add]
    have : opsR.toList[j]? = some o := by rw [hRl, List.getElem?_append_left (List.getElem?_eq_some_iff.1 hj).1]; exact hj
    simpa using this
  have hoR : opsR[osR.length]? = some oR := by
    have : opsR.toList[osR.length]? = some oR := by rw [hRl]; simp
    simpa using this
  have hv := opd_rep hE1 hR1
  obtain ⟨hH2, hX2, T0, ht1, ht2, hcase⟩ := mopen_spec hH1 hv hop
  obtain ⟨o, mp, hrange, hIt, hmpk, hoc, hom, hod⟩ : ∃ (o : List Tr → Obj) (mp : World → Prop), (Instr.range ty (a1.eval xop)).run P K1.w = .ok (.pointer (some ⟨K1.w.heap.size, 0, none⟩)) (K1.w.alloc (o [])) ∧ ItOk P T0 K1.w.heap.size o mp ∧
      (∀ K' H', Ext K1 H2 K' H' → mp K'.w) ∧ (∀ q c e f, o q ≠ .cells c e f) ∧ (∀ q es c, o q ≠ .map es c) ∧ (∀ q, o q ≠ .deferred (some [])) := by
    rcases hcase with ⟨hnil, rfl⟩ | ⟨g, es, clock, es', hmap, hh, hst, hp, hT', hnl⟩
    · exact ⟨fun _ => .mapIter none 0 #[] 0, fun _ => True, by rw [hnil]; exact run_range_nilMap _ _ _ _ hund, itOk_nil, fun _ _ _ => trivial, by intros; simp, by intros; simp, by intros; simp⟩
    · have hgl := (Array.getElem?_eq_some_iff.1 hh).1
      exact ⟨fun q => .mapIter (some g) clock (q.map (·.1.born)).toArray clock, fun w => w.heap[g]? = some (.map es clock), by rw [hmap]; exact run_range_map _ _ _ _ _ _ _ hund hh, itOk_map hst hp hT' (by omega),
        fun K' H' hX => (hX.frame g hgl hnl).trans hh, by intros; simp, by intros; simp, by intros; simp⟩
  refine wpOp_value hoR hR3 (w' := K1.w.alloc (o [])) (rv := .pointer (some ⟨K1.w.heap.size, 0, none⟩)) (by simp [execOp, hopR, hrange, Result.andThen]) ?_
  obtain ⟨hHd, hXd⟩ := hH2.iterNew (o [])
  obtain ⟨r, hrdef⟩ : ∃ r, r = K1.w.heap.size := ⟨_, rfl⟩
  have hE2 : ERel ⟨K1.w.alloc (o []), K1.Z, K1.Y, muSet K1.μ H2.length 0 (K1.w.heap.size, 0)⟩ N ((M.it, .mptr H2.length 0 0) :: e1) (a1.put oR.dst (.pointer (some ⟨K1.w.heap.size, 0, none⟩))) := by
    rw [hR2]
    exact (hE1.mono hXd.le).put (d := some M.it) (fun x hx => by cases hx; exact n1) ⟨_, _, muSet_same _ _ _ _, rfl⟩
  have hM1 : Marks B K1 a1.defers := by rw [hd1]; exact hM.ext hH hX1
  have hM2 : Marks B ⟨K1.w.alloc (o []), K1.Z, K1.Y, muSet K1.μ H2.length 0 (K1.w.heap.size, 0)⟩ (a1.put oR.dst (.pointer (some ⟨K1.w.heap.size, 0, none⟩))).defers := by
    rw [put_defers]; exact hM1.ext hH2 hXd
  show (Code.block M.id (.loop _)).wpIn (fc ro) 0 P (Exit.then (b'.wpIn (fc ro) 0 P Q) Q) _ _
  refine wpIn_block (wpIn_loop_ghost (fun m a3 w3 => ∃ (K3 : KW) (h3 : Hp) (e3 : Env) (q rem : List Tr), K3.w = w3 ∧ m = rem.length ∧ (q ++ rem).Perm T0 ∧ Ext K1 H2 K3 h3 ∧ HRel K3 h3 ∧ ERel K3 N e3 a3 ∧ Marks B K3 a3.defers ∧ w3.heap[r]? = some (o q) ∧ ¬ K3.Z r ∧ ¬ K3.Y r ∧
    K3.μ H2.length 0 = some (r, 0) ∧ mrounds T ex M H2.length pa (q.map (·.2)) ((M.it, .mptr H2.length 0 0) :: e1) (H2 ++ [dead]) = some (e3, h3)) T0.length
    ⟨_, _, _, [], T0, rfl, rfl, .refl _, hXd, hHd, hE2, hM2, ?_, ?_, ?_, ?_, ?_⟩ ?_)
  · rw [hrdef]; exact World.alloc_heap_new _ _
  · intro q; have := hH2.lt r (.inl q); omega
  · intro q; have := hH2.lt r (.inr q); omega
  · rw [hrdef]; exact muSet_same _ _ _ _
  · simp [mrounds, get, PV.beq_refl]
  rintro m a3 w3 ⟨K3, h3, e3, q, rem, rfl, rfl, hperm, hX3, hH3, hE3, hM3, ho3, hz3, hy3, hmu3, hr3⟩
  have hrl3 := (Array.getElem?_eq_some_iff.1 ho3).1
  have hpermE : ((q ++ rem).map (·.2)).Perm E := by rw [← ht1]; exact hperm.map _
  have hit3 : get e3 M.it = .mptr H2.length 0 0 := by
    have hf := hfull _ hpermE
    unfold mfull at hf
    rw [Option.bind_eq_some_iff] at hf
    obtain ⟨rr, hf, _⟩ := hf
    rw [List.map_append] at hf
    obtain ⟨s, h1, h2⟩ := mrounds_app hf
    rw [hr3] at h1
    have := Option.some.inj h1
    subst this
    exact mrounds_it h2
  have hev : a3.eval (.tmp M.it) = .pointer (some ⟨r, 0, none⟩) := by
    have hs := hE3.slot M.it
    rw [hit3] at hs
    obtain ⟨g, n, h1, h2⟩ := hs
    rw [hmu3] at h1
    obtain ⟨rfl, rfl⟩ : r = g ∧ 0 = n := by simpa using h1
    exact h2
  have hN0 : opsN[0]? = some oN := by have : opsN.toList[0]? = some oN := by rw [hNl]; rfl
                                      simpa using this
  have hN1 : opsN[1]? = some oX := by have : opsN.toList[1]? = some oX := by rw [hNl]; rfl
                                      simpa using this
  have hNr : List.range opsN.size = [0, 1] := by rw [← Array.length_toList, hNl]; rfl
  refine wpIn_seq (wpIn_region ?_)
  rw [hNr]
  rcases hIt q K3.w oN.type ⟨rem, hperm⟩ (by rw [← hrdef]; exact ho3) (hmpk K3 h3 hX3) with ⟨hno, hrun⟩ | ⟨t, w', htm, hrun, hos, htp, hou, hsz, hoth, hrw, hentry⟩
  · rw [← hrdef] at hrun
    have hr0 := hno rem hperm
    subst hr0
    rw [List.append_nil] at hpermE
    have hf := hfull _ hpermE
    unfold mfull at hf
    rw [Option.bind_eq_some_iff] at hf
    obtain ⟨rr, hf1, hf⟩ := hf
    rw [hr3] at hf1
    have := Option.some.inj hf1
    subst this
    rw [Option.bind_eq_some_iff] at hf
    obtain ⟨H4, hcl, hf⟩ := hf
    rw [Option.bind_eq_some_iff] at hf
    obtain ⟨⟨x5, e5, H5⟩, hex5, hf⟩ := hf
    dsimp only at hex5 hf hcl
    split at hf
    case isFalse => cases hf
    rename_i htrim
    simp only [Option.some.injEq, Prod.mk.injEq] at hf
    obtain ⟨rfl, rfl, rfl⟩ := hf
    obtain ⟨hH4, hX4⟩ := mclose_spec hH1 hop hX3 hH3 hcl
    refine wpOp_value hN0 hN3 (w' := K3.w) (rv := .tuple #[.bool false]) (by simp [execOp, hopN, hev, hrun, Result.andThen]) ?_
    have hexx : (a3.put oN.dst (.tuple #[.bool false])).eval (.tmp M.tn) = .tuple #[.bool false] := by
      rw [hN2]
      have := ((hE3.put (d := some M.tn) (v := .tup [.bool false]) (rv := .tuple #[.bool false]) (fun x hx => by cases hx; exact n2) ⟨_, rfl, _, _, rfl, rfl, rfl⟩).slot M.tn)
      simp only [put, get, if_true] at this
      obtain ⟨ys, h1, y, ys', h2, h3, h4⟩ := this
      have : ys = #[.bool false] := by
        apply Array.ext'
        rw [h2, h4, show y = .bool false from h3]
      rw [this] at h1
      exact h1
    refine wpOp_value hN1 hN6 (w' := K3.w) (rv := .bool false) (by simp [execOp, hopX, hexx, Instr.extract, Result.andThen]) ?_
    have hE5 : ERel K3 N ((M.tk, .bool false) :: (M.tn, .undef) :: e3) ((a3.put oN.dst (.tuple #[.bool false])).put oX.dst (.bool false)) := by
      rw [hN2, hN5]
      exact (hE3.put (d := some M.tn) (v := .undef) (fun x hx => by cases hx; exact n2) trivial).put (d := some M.tk) (v := .bool false) (fun x hx => by cases hx; exact n3) rfl
    have hcond : ((a3.put oN.dst (.tuple #[.bool false])).put oX.dst (.bool false)).eval (.tmp M.tk) = .bool false := by
      have := hE5.slot M.tk
      simp only [get, if_true] at this
      exact this
    show (Code.seq _ _).wpIn (fc ro) 0 P _ _ _
    refine wpIn_seq (wpIn_cond_false hcond (wpIn_exit ?_))
    simp only [Exit.then, Exit.inBlock, if_true]
    refine hex ro B N pb b' K3 H4 _ _ x5 e5 H5 (hro.imp id fun q => q.2) hcb hH4 hE5 (by rw [put_defers, put_defers]; exact hM3) hex5 Q (fun K6 a6 hX6 hH6 hE6 hM6 => ?_)
    obtain ⟨K7, hw, hX7, hH7, hE7, hz7, hy7⟩ := trim_ok hH (hX1.trans (hX4.trans hX6)) hH6 (hE6.norm M.live) htrim
    rw [← hw]
    exact hQ K7 a6 hX7 hH7 hE7 (hM6.same hw hz7 hy7)
  · rw [← hrdef] at hrun hoth hrw hentry
    obtain ⟨rl, rr, rfl⟩ := List.append_of_mem (htm rem hperm)
    have hperm' : ((q ++ [t]) ++ (rl ++ rr)).Perm T0 := by
      refine List.Perm.trans ?_ hperm
      rw [List.append_assoc]
      refine List.Perm.append_left q ?_
      show (t :: (rl ++ rr)).Perm _
      exact List.perm_middle.symm
    have hf := hfull (((q ++ [t]) ++ (rl ++ rr)).map (·.2)) (by rw [← ht1]; exact hperm'.map _)
    unfold mfull at hf
    rw [Option.bind_eq_some_iff] at hf
    obtain ⟨rr', hf1, _⟩ := hf
    rw [List.map_append] at hf1
    obtain ⟨⟨e8, h8⟩, hq1, _⟩ := mrounds_app hf1
    have hq1' := hq1
    rw [List.map_append] at hq1'
    obtain ⟨s, hs1, hs2⟩ := mrounds_app hq1'
    rw [hr3] at hs1
    have := Option.some.inj hs1
    subst this
    obtain ⟨s3, hs3, _, hs4⟩ := mrounds_one (kv := t.2) (q := []) hs2
    obtain ⟨_, hs4⟩ := mrounds_nil hs4
    have : s3 = (e8, h8) := by rw [hs4]
    subst this
    unfold mround at hs3
    split at hs3
    case isFalse => cases hs3
    rw [Option.bind_eq_some_iff] at hs3
    obtain ⟨⟨e7, h7⟩, hsE, hs3⟩ := hs3
    rw [Option.bind_eq_some_iff] at hs3
    obtain ⟨⟨y, e9, h9⟩, hsB, hs3⟩ := hs3
    dsimp only at hsE hsB hs3
    obtain ⟨hH4, hle4⟩ := hH3.iter (w' := w') hos htp hou hsz hoth hz3 hy3 ho3 (hoc q) (hom q)
    have hX4 : Ext K1 H2 ⟨w', K3.Z, K3.Y, K3.μ⟩ h3 := ⟨hX3.le.trans hle4, fun g hg hl => (hoth g (by omega)).trans (hX3.frame g hg hl), fun g hg => hX3.live g hg, hX3.zb, hX3.yb⟩
    have hM4 : Marks B ⟨w', K3.Z, K3.Y, K3.μ⟩ a3.defers := ⟨by show B ≤ w'.heap.size; rw [hsz]; exact hM3.1, hM3.2.iter hoth ho3 (hod q)⟩
    have hrep : Rep ⟨w', K3.Z, K3.Y, K3.μ⟩ (.tup [t.2.1, t.2.2]) (.tuple #[t.1.key, t.1.val]) := by
      have ht : t ∈ T0 := hperm'.mem_iff.1 (by simp)
      exact ⟨_, rfl, _, _, rfl, (ht2 t ht).1.mono hX4.le, _, _, rfl, (ht2 t ht).2.mono hX4.le, rfl⟩
    have hrep3 : Rep ⟨w', K3.Z, K3.Y, K3.μ⟩ (.tup [.bool true, t.2.1, t.2.2]) (.tuple #[.bool true, t.1.key, t.1.val]) := by
      have ht : t ∈ T0 := hperm'.mem_iff.1 (by simp)
      exact ⟨_, rfl, _, _, rfl, rfl, _, _, rfl, (ht2 t ht).1.mono hX4.le, _, _, rfl, (ht2 t ht).2.mono hX4.le, rfl⟩
    have hE4 := hE3.mono hle4
    refine wpOp_value hN0 hN3 (w' := w') (rv := .tuple #[.bool true, t.1.key, t.1.val]) (by simp [execOp, hopN, hev, hrun, Result.andThen]) ?_
    have hexx : (a3.put oN.dst (.tuple #[.bool true, t.1.key, t.1.val])).eval (.tmp M.tn) = .tuple #[.bool true, t.1.key, t.1.val] := by
      rw [hN2]
      simp [Act.put, Act.eval, hE3.size, n2]
    refine wpOp_value hN1 hN6 (w' := w') (rv := .bool true) (by simp [execOp, hopX, hexx, Instr.extract, Result.andThen]) ?_
    have hE5 : ERel ⟨w', K3.Z, K3.Y, K3.μ⟩ N ((M.tk, .bool true) :: (M.tn, .undef) :: e3) ((a3.put oN.dst (.tuple #[.bool true, t.1.key, t.1.val])).put oX.dst (.bool true)) := by
      rw [hN2, hN5]
      exact (hE4.put (d := some M.tn) (v := .undef) (fun x hx => by cases hx; exact n2) trivial).put (d := some M.tk) (v := .bool true) (fun x hx => by cases hx; exact n3) rfl
    have hcond : ((a3.put oN.dst (.tuple #[.bool true, t.1.key, t.1.val])).put oX.dst (.bool true)).eval (.tmp M.tk) = .bool true := by
      have := hE5.slot M.tk
      simp only [get, if_true] at this
      exact this
    have hit5 : ((a3.put oN.dst (.tuple #[.bool true, t.1.key, t.1.val])).put oX.dst (.bool true)).eval (.tmp M.it) = .pointer (some ⟨r, 0, none⟩) := by
      have hs := hE5.slot M.it
      simp only [get, if_neg (Ne.symm n6), if_neg (Ne.symm n5)] at hs
      rw [hit3] at hs
      obtain ⟨g, n, h1, h2⟩ := hs
      have h1' : K3.μ H2.length 0 = some (g, n) := h1
      rw [hmu3] at h1'
      obtain ⟨rfl, rfl⟩ : r = g ∧ 0 = n := by simpa using h1'
      exact h2
    show (Code.seq _ _).wpIn (fc ro) 0 P _ _ _
    refine wpIn_seq (wpIn_cond_true hcond (wpIn_skip ?_))
    show (Code.block M.id2 _).wpIn (fc ro) 0 P _ _ _
    refine wpIn_block (wpIn_seq (wpIn_region ?_))
    have hE0 : opsE[0]? = some oE := by have : opsE.toList[0]? = some oE := by rw [hEl]; rfl
                                        simpa using this
    have hEr : List.range opsE.size = 0 :: ((List.range osE.length).map (1 + ·) ++ []) := by
      rw [← Array.length_toList, hEl, List.length_cons, List.range_succ_eq_map, List.append_nil]
      congr 1
      apply List.map_congr_left
      intro j _
      simp; omega
    rw [hEr]
    refine wpOp_value hE0 hE3' (w' := w') (rv := .tuple #[t.1.key, t.1.val]) (by simp [execOp, hopE, hit5, hentry, Result.andThen]) ?_
    refine seq_okC (callP_ok hT hex) (callO_ok hT hex) hT.meth osE M.rsE 1 ⟨w', K3.Z, K3.Y, K3.μ⟩ h3 _ _ e7 h7 ?_ hropsE hH4 (by rw [hE2']; exact hE5.put (d := some M.te) (fun x hx => by cases hx; exact n4) hrep) hsE (fun K5 a7 hX5 hH5 hE7 hd5 => ?_)
    · intro j o' hj
      have : opsE.toList[1 + j]? = some o' := by rw [hEl, Nat.add_comm]; exact hj
      simpa using this
    rw [put_defers, put_defers, put_defers] at hd5
    show a'.wpIn (fc ro) 0 P _ _ _
    refine hex ro B N pa a' K5 h7 (normE M.lvE e7) a7 y e9 h9 (hro.imp id fun q => q.1) hca hH5 (hE7.norm _) (by rw [hd5]; exact hM4.ext hH4 hX5) hsB _ (fun K8 a8 hX8 hH8 hE8 hM8 => ?_)
    have hX48 := hX5.trans hX8
    have hnl : ¬ Live ⟨w', K3.Z, K3.Y, K3.μ⟩ h3 r := hH4.notCells hrw (hoc _) (hom _)
    have hrl : r < w'.heap.size := by rw [hsz]; exact hrl3
    have hfin : (e9, h9) = (e8, h8) → ∃ n', n' < (rl ++ t :: rr).length ∧ ∃ (K3 : KW) (h3 : Hp) (e3 : Env) (q rem : List Tr), K3.w = K8.w ∧ n' = rem.length ∧ (q ++ rem).Perm T0 ∧ Ext K1 H2 K3 h3 ∧ HRel K3 h3 ∧ ERel K3 N e3 a8 ∧ Marks B K3 a8.defers ∧ K8.w.heap[r]? = some (o q) ∧ ¬ K3.Z r ∧ ¬ K3.Y r ∧
        K3.μ H2.length 0 = some (r, 0) ∧ mrounds T ex M H2.length pa (q.map (·.2)) ((M.it, .mptr H2.length 0 0) :: e1) (H2 ++ [dead]) = some (e3, h3) := by
      intro heq
      cases heq
      exact ⟨(rl ++ rr).length, by simp, K8, h8, e8, q ++ [t], rl ++ rr, rfl, rfl, hperm', hX4.trans hX48, hH8, hE8, hM8, (hX48.frame r hrl hnl).trans hrw, fun z => (hX48.zb r z).elim hz3 (fun z => by have : w'.heap.size ≤ r := z; omega), fun z => hy3 (hX48.yb r z), hX48.le.mu _ _ _ hmu3, hq1⟩
    cases y with
    | normal => exact hfin (Option.some.inj hs3)
    | ret => cases hs3
    | exit i =>
      simp only at hs3
      split at hs3
      case isFalse => cases hs3
      rename_i hi
      subst hi
      simp only [PX.to, Exit.inBlock, if_true]
      exact hfin (Option.some.inj hs3)
theorem step_ok (hT : TOk P T) (hex : ExOk P ex) {ro : Option Nat} {B N : Nat} {pc : PCode} {c : Code} {K : KW} {H : Hp} {env : Env} {a : Act} {x : PX} {env' : Env} {H' : Hp} (hnl : ∀ p, pc ≠ .loop p) (hro : ro = none ∨ noRng pc = true) (hok : codeOk P N pc c = true) (hH : HRel K H) (hE : ERel K N env a) (hM : Marks B K a.defers)
    (he : step T ex pc env H = some (x, env', H')) (Q : Exit → Act → World → Prop) (hQ : ∀ K' a', Ext K H K' H' → HRel K' H' → ERel K' N env' a' → Marks B K' a'.defers → Q x.to a' K'.w) : c.wpIn (fc ro) 0 P Q a K.w := by
  cases pc <;> simp only [codeOk] at hok <;> simp only [step] at he
  case skip =>
    split at hok
    · simp only [Option.some.injEq, Prod.mk.injEq] at he
      obtain ⟨rfl, rfl, rfl⟩ := he
      exact wpIn_skip (hQ K a (Ext.refl _ _) hH hE hM)
    · cases hok
  case reg rs chk live =>
    rw [Option.map_eq_some_iff] at he
    obtain ⟨⟨e1, H1⟩, hr, h2⟩ := he
    simp only [Prod.mk.injEq] at h2
    obtain ⟨rfl, rfl, rfl⟩ := h2
    split at hok
    case h_2 => cases hok
    rename_i id ops draw
    simp only [Bool.and_eq_true] at hok
    cases draw
    · have hrun : runSeq (callP T ex) (callO T ex) fzB T.meth rs env H = some (e1, H1) := by
        have hc : chk = [] := by simpa using hok.2
        subst hc
        exact hr
      exact region_ok (callP_ok hT hex) (callO_ok hT hex) fzB_ok hT.meth hok.1 hH hE hrun (fun K' a' hX hH' hE' hd => hQ K' a' hX hH' (hE'.norm live) (by rw [hd]; exact hM.ext hH hX))
    · have hd : drawOk ops rs chk = true ∨ drawOk2 ops rs chk = true := by simpa using hok.2
      rcases hd with hd | hd
      · exact draw_ok (callP_ok hT hex) (callO_ok hT hex) fzB_ok hT.meth hT.mix hok.1 hd hH hE hr (fun K' a' hX hH' hE' hd => hQ K' a' hX hH' (hE'.norm live) (by rw [hd]; exact hM.ext hH hX))
      · exact draw_ok2 (callP_ok hT hex) (callO_ok hT hex) fzB_ok (fun _ _ _ _ => fzB_app) hT.meth hT.mix hok.1 hd hH hE hr (fun K' a' hX hH' hE' hd => hQ K' a' hX hH' (hE'.norm live) (by rw [hd]; exact hM.ext hH hX))
  case seq p q =>
    rw [Option.bind_eq_some_iff] at he
    obtain ⟨⟨y, e1, H1⟩, h1, h2⟩ := he
    split at hok
    case h_2 => cases hok
    rename_i a' b'
    simp only [Bool.and_eq_true] at hok
    have hro1 : ro = none ∨ noRng p = true := hro.imp id fun q => by simp only [noRng, Bool.and_eq_true] at q; exact q.1
    have hro2 : ro = none ∨ noRng q = true := hro.imp id fun q => by simp only [noRng, Bool.and_eq_true] at q; exact q.2
    refine wpIn_seq ?_
    refine hex ro B N p a' K H env a y e1 H1 hro1 hok.1 hH hE hM h1 _ (fun K1 a1 hX1 hH1 hE1 hM1 => ?_)
    cases y with
    | normal =>
      simp only at h2
      exact hex ro B N q b' K1 H1 e1 a1 x env' H' hro2 hok.2 hH1 hE1 hM1 h2 _ (fun K' a' hX hH' hE' hM' => hQ K' a' (hX1.trans hX) hH' hE' hM')
    | exit id =>
      simp only [Option.some.injEq, Prod.mk.injEq] at h2
      obtain ⟨rfl, rfl, rfl⟩ := h2
      exact hQ K1 a1 hX1 hH1 hE1 hM1
    | ret =>
      simp only [Option.some.injEq, Prod.mk.injEq] at h2
      obtain ⟨rfl, rfl, rfl⟩ := h2
      exact hQ K1 a1 hX1 hH1 hE1 hM1
  case cond q p1 p2 =>
    split at hok
    case h_2 => cases hok
    rename_i X a' b'
    simp only [Bool.and_eq_true] at hok
    split at he
    case h_2 => cases he
    rename_i t ht
    have hx := opd_rep hE hok.1.1
    rw [ht] at hx
    have hx' : a.eval X = .bool t := hx
    have hro1 : ro = none ∨ noRng p1 = true := hro.imp id fun q => by simp only [noRng, Bool.and_eq_true] at q; exact q.1
    have hro2 : ro = none ∨ noRng p2 = true := hro.imp id fun q => by simp only [noRng, Bool.and_eq_true] at q; exact q.2
    refine wpIn_cond hx' ?_
    cases t
    · exact hex ro B N p2 b' K H env a x env' H' hro2 hok.2 hH hE hM he Q hQ
    · exact hex ro B N p1 a' K H env a x env' H' hro1 hok.1.2 hH hE hM he Q hQ
  case blk id p =>
    rw [Option.map_eq_some_iff] at he
    obtain ⟨⟨y, e1, H1⟩, h1, h2⟩ := he
    split at hok
    case h_2 => cases hok
    rename_i id' a'
    simp only [Bool.and_eq_true, beq_iff_eq] at hok
    obtain ⟨rfl, hok⟩ := hok
    refine wpIn_block ?_
    refine hex ro B N p a' K H env a y e1 H1 hro hok hH hE hM h1 _ (fun K1 a1 hX1 hH1 hE1 hM1 => ?_)
    cases y with
    | normal =>
      simp only [Prod.mk.injEq] at h2
      obtain ⟨rfl, rfl, rfl⟩ := h2
      exact hQ K1 a1 hX1 hH1 hE1 hM1
    | ret =>
      simp only [Prod.mk.injEq] at h2
      obtain ⟨rfl, rfl, rfl⟩ := h2
      exact hQ K1 a1 hX1 hH1 hE1 hM1
    | exit i =>
      simp only [PX.to, Exit.inBlock]
      simp only at h2
      split at h2
      · rename_i e
        simp only [Prod.mk.injEq] at h2
        obtain ⟨rfl, rfl, rfl⟩ := h2
        rw [if_pos e]
        exact hQ K1 a1 hX1 hH1 hE1 hM1
      · rename_i e
        simp only [Prod.mk.injEq] at h2
        obtain ⟨rfl, rfl, rfl⟩ := h2
        rw [if_neg e]
        exact hQ K1 a1 hX1 hH1 hE1 hM1
  case loop p => exact absurd rfl (hnl p)
  case trim p =>
    rw [Option.bind_eq_some_iff] at he
    obtain ⟨⟨y, e1, H1⟩, h1, h2⟩ := he
    split at h2
    case isFalse => cases h2
    rename_i ht
    simp only [Option.some.injEq, Prod.mk.injEq] at h2
    obtain ⟨rfl, rfl, rfl⟩ := h2
    refine hex ro B N p c K H env a y e1 H1 hro hok hH hE hM h1 _ (fun K1 a1 hX1 hH1 hE1 hM1 => ?_)
    obtain ⟨K2, hw, hX2, hH2, hE2, hz2, hy2⟩ := trim_ok hH hX1 hH1 hE1 ht
    rw [← hw]
    exact hQ K2 a1 hX2 hH2 hE2 (hM1.same hw hz2 hy2)
  case rng q p pa pb =>
    split at hok
    case h_2 => cases hok
    rename_i g ps a' b'
    obtain rfl : ro = none := hro.resolve_right (by simp [noRng])
    exact rng_ok hT hex hok hH hE hM he Q hQ
  case mrng M pa pb =>
    split at hok
    case h_2 => cases hok
    simp only [Bool.and_eq_true, beq_iff_eq] at hok
    obtain ⟨rfl, rfl, rfl, h1, h2, h3⟩ := hok
    exact mrng_ok hT hex (hro.imp id fun q => by simp only [noRng, Bool.and_eq_true] at q; exact q) h1 h2 h3 hH hE hM he Q hQ
  case ext id =>
    split at hok
    case h_2 => cases hok
    simp only [beq_iff_eq] at hok
    subst hok
    simp only [Option.some.injEq, Prod.mk.injEq] at he
    obtain ⟨rfl, rfl, rfl⟩ := he
    exact wpIn_exit (hQ K a (Ext.refl _ _) hH hE hM)
  case ret =>
    split at hok
    case h_2 => cases hok
    simp only [Option.some.injEq, Prod.mk.injEq] at he
    obtain ⟨rfl, rfl, rfl⟩ := he
    exact wpIn_ret (hQ K a (Ext.refl _ _) hH hE hM)
  case bad => cases he

theorem loop_ok (hT : TOk P T) {n : Nat} (hex : ∀ m, m ≤ n → ExOk P (pexec T m)) {ro : Option Nat} {B N : Nat} {p : PCode} {c : Code} {K : KW} {H : Hp} {env : Env} {a : Act} {x : PX} {env' : Env} {H' : Hp} (hro : ro = none ∨ noRng p = true) (hok : codeOk P N p c = true) (hH : HRel K H) (hE : ERel K N env a) (hM : Marks B K a.defers)
    (he : pexec T (n + 1) (.loop p) env H = some (x, env', H')) (Q : Exit → Act → World → Prop) (hQ : ∀ K' a', Ext K H K' H' → HRel K' H' → ERel K' N env' a' → Marks B K' a'.defers → Q x.to a' K'.w) : (Code.loop c).wpIn (fc ro) 0 P Q a K.w := by
  refine wpIn_loop_ghost (fun m a1 w1 => m ≤ n + 1 ∧ ∃ K1 H1 e1, K1.w = w1 ∧ Ext K H K1 H1 ∧ HRel K1 H1 ∧ ERel K1 N e1 a1 ∧ Marks B K1 a1.defers ∧ pexec T m (.loop p) e1 H1 = some (x, env', H')) (n + 1) ⟨Nat.le_refl _, K, H, env, rfl, Ext.refl _ _, hH, hE, hM, he⟩ ?_
  rintro m a1 w1 ⟨hm, K1, H1, e1, rfl, hX1, hH1, hE1, hM1, he1⟩
  cases m with
  | zero => cases he1
  | succ m =>
    simp only [pexec, step, Option.bind_eq_some_iff] at he1
    obtain ⟨⟨y, e2, H2⟩, h1, h2⟩ := he1
    refine hex m (by omega) ro B N p c K1 H1 e1 a1 y e2 H2 hro hok hH1 hE1 hM1 h1 _ (fun K2 a2 hX2 hH2 hE2 hM2 => ?_)
    cases y with
    | normal => exact ⟨m, by omega, by omega, K2, H2, e2, rfl, hX1.trans hX2, hH2, hE2, hM2, h2⟩
    | exit id =>
      simp only [Option.some.injEq, Prod.mk.injEq] at h2
      obtain ⟨rfl, rfl, rfl⟩ := h2
      exact hQ K2 a2 (hX1.trans hX2) hH2 hE2 hM2
    | ret =>
      simp only [Option.some.injEq, Prod.mk.injEq] at h2
      obtain ⟨rfl, rfl, rfl⟩ := h2
      exact hQ K2 a2 (hX1.trans hX2) hH2 hE2 hM2

theorem pexec_all (hT : TOk P T) : ∀ n m, m ≤ n → ExOk P (pexec T m)
  | 0, m, hm => by
    obtain rfl : m = 0 := by omega
    intro ro B N pc c K H env a x env' H' _ _ _ _ _ he
    cases he
  | n + 1, m, hm => by
    rcases Nat.lt_or_ge m (n + 1) with h | h
    · exact pexec_all hT n m (by omega)
    · obtain rfl : m = n + 1 := by omega
      have ih := pexec_all hT n
      intro ro B N pc c K H env a x env' H' hro hok hH hE hM he Q hQ
      by_cases hl : ∃ p, pc = .loop p
      · obtain ⟨p, rfl⟩ := hl
        simp only [codeOk] at hok
        split at hok
        · exact loop_ok (p := p) hT ih hro hok hH hE hM he Q hQ
        · cases hok
      · exact step_ok hT (ih n (Nat.le_refl _)) (fun p e => hl ⟨p, e⟩) hro hok hH hE hM he Q hQ
theorem pexec_ok (hT : TOk P T) (n : Nat) : ExOk P (pexec T n) := pexec_all hT n n (Nat.le_refl _)

/-- **A call by value, as the evaluator tells it, is a call of the model's.** -/
theorem pcall_ok (hT : TOk P T) {n f : Nat} {args : List PV} {r : PV} (h : pcall T n f args = some r) : PureOk P f args r := callP_ok hT (pexec_ok hT n) f args r h
end
end Go.Proofs.Ytmbknidfkddpfaa.PM
