/- The pure machine, part 12: whole codes and functions, and that they do what the model's do. -/
import Derived.Test.YtmbknidfkddpfaaPmEleven
set_option linter.unusedVariables false
set_option linter.unusedSimpArgs false
namespace Go.Proofs.Ytmbknidfkddpfaa.PM
open Go.RowKit (Below)

inductive PCode where
  | skip
  | reg (rs : List ROp) (chk : List (Nat × Nat)) (live : List Nat)
  | seq (a b : PCode)
  | cond (c : POpd) (a b : PCode)
  | blk (id : Nat) (c : PCode)
  | loop (c : PCode)
  | trim (c : PCode)
  | ext (id : Nat)
  | ret
  | bad
  deriving Inhabited

inductive PX where
  | normal
  | exit (id : Nat)
  | ret
  deriving DecidableEq, Inhabited

inductive PRes where
  | tmp (t : Nat)
  | cell (t : Nat) (n : Option Nat)
  deriving Inhabited

structure PFn where
  nt : Nat
  np : Nat
  res : List PRes
  body : PCode
  deriving Inhabited

structure Table where
  fns : List (Nat × PFn)
  nat : Nat → List PV → Option PV
  natO : Nat → List PV → Hp → Option (PV × Hp)
  meth : Nat → String → Option Nat

def findF : List (Nat × PFn) → Nat → Option PFn
  | [], _ => none
  | (k, F) :: r, f => if k = f then some F else findF r f

def trimOk (k : Nat) (env : Env) (H : Hp) : Bool := env.all (fun x => x.2.noRef k) && (H.take k).all fun B => PV.noRefL k B.xs

def env0 (args : List PV) : Env := args.zipIdx.map fun x => (x.2, x.1)
def resV (env : Env) (H : Hp) : PRes → Option PV
  | .tmp t => some (get env t)
  | .cell t n => evLd n (get env t) H
def resL (env : Env) (H : Hp) : List PRes → Option (List PV)
  | [] => some []
  | r :: rs => (resV env H r).bind fun v => (resL env H rs).map fun vs => v :: vs
def retV (env : Env) (H : Hp) (res : List PRes) : Option PV := (resL env H res).map fun vs => match vs with | [v] => v | vs => .tup vs

def ends (x : PX) : Bool := match x with | .normal | .ret => true | .exit _ => false

section
variable (T : Table) (ex : PCode → Env → Hp → Option (PX × Env × Hp))
def callP (f : Nat) (args : List PV) : Option PV :=
  match T.nat f args with
  | some r => some r
  | none => (findF T.fns f).bind fun F => if args.length = F.np then
      (ex F.body (env0 args) []).bind fun q => if ends q.1 then (retV q.2.1 q.2.2 F.res).bind fun v => (frz q.2.2 .any 64 v).bind fun v' => if v'.cleanB then some v' else none else none
    else none
def callO (f : Nat) (args : List PV) (H : Hp) : Option (PV × Hp) :=
  match T.natO f args H with
  | some r => some r
  | none => (findF T.fns f).bind fun F => if args.length = F.np then
      (ex F.body (env0 args) H).bind fun q => if ends q.1 then (retV q.2.1 q.2.2 F.res).map fun v => (v, q.2.2) else none
    else none
def step (c : PCode) (env : Env) (H : Hp) : Option (PX × Env × Hp) :=
  match c with
  | .skip => some (.normal, env, H)
  | .reg rs chk live => (runReg (callP T ex) (callO T ex) fzB T.meth rs chk env H).map fun q => (.normal, normE live q.1, q.2)
  | .seq a b => (ex a env H).bind fun q => match q.1 with | .normal => ex b q.2.1 q.2.2 | _ => some q
  | .cond c a b => (match ev env c with | .bool t => ex (if t then a else b) env H | _ => none)
  | .blk id c => (ex c env H).map fun q => match q.1 with | .exit i => if i = id then (.normal, q.2) else q | _ => q
  | .loop c => (ex c env H).bind fun q => match q.1 with | .normal => ex (.loop c) q.2.1 q.2.2 | _ => some q
  | .trim c => (ex c env H).bind fun q => if trimOk H.length q.2.1 q.2.2 then some (q.1, q.2.1, q.2.2.take H.length) else none
  | .ext id => some (.exit id, env, H)
  | .ret => some (.ret, env, H)
  | .bad => none
end
def pexec (T : Table) : Nat → PCode → Env → Hp → Option (PX × Env × Hp)
  | 0, _, _, _ => none
  | n + 1, c, env, H => step T (pexec T n) c env H
def pcall (T : Table) (n : Nat) (f : Nat) (args : List PV) : Option PV := callP T (pexec T n) f args

/-! ### Which model code -/
def codeOk (P : Program) (N : Nat) : PCode → Code → Bool
  | .skip, c => (match c with | .skip => true | _ => false)
  | .reg rs chk live, c => (match c with | .region _ ops draw => ropsOk P N ops ops.toList rs && (if draw then drawOk ops rs chk else chk.isEmpty) | _ => false)
  | .seq a b, c => (match c with | .seq a' b' => codeOk P N a a' && codeOk P N b b' | _ => false)
  | .cond x a b, c => (match c with | .cond X a' b' => opdOk X x && codeOk P N a a' && codeOk P N b b' | _ => false)
  | .blk id a, c => (match c with | .block id' a' => id' == id && codeOk P N a a' | _ => false)
  | .loop a, c => (match c with | .loop a' => codeOk P N a a' | _ => false)
  | .trim a, c => codeOk P N a c
  | .ext id, c => (match c with | .exit id' => id' == id | _ => false)
  | .ret, c => (match c with | .ret => true | _ => false)
  | .bad, _ => true

def resOk (P : Program) : List ResultVar → List PRes → Bool
  | [], [] => true
  | .tmp t :: rs, .tmp t' :: rs' => t == t' && resOk P rs rs'
  | .cell t ty :: rs, .cell t' n :: rs' => t == t' && hasT P ty && n == aggN P ty && resOk P rs rs'
  | _, _ => false
def fnOk (P : Program) (f : Nat) (F : PFn) : Bool :=
  match P.funcs[f]? with
  | some fn => (fn.name != "runtime.NumGoroutine") && fn.ntmps == F.nt && decide (F.np ≤ F.nt) && resOk P fn.results.toList F.res && (match fn.body with | some c => codeOk P F.nt F.body c | none => false)
  | none => false

structure TOk (P : Program) (T : Table) : Prop where
  fns : ∀ x ∈ T.fns, fnOk P x.1 x.2 = true
  nat : ∀ f args r, T.nat f args = some r → PureOk P f args r
  natO : ∀ f args H r H', T.natO f args H = some (r, H') → OpenOk P f args H r H'
  meth : MethOk P T.meth
  mix : P.follows .mixedOrders = true

def PX.to : PX → Exit
  | .normal => .normal
  | .exit id => .exit id
  | .ret => .ret

theorem get_noRef {k : Nat} : ∀ {env : Env}, env.all (fun x => x.2.noRef k) = true → ∀ t, (get env t).noRef k = true
  | [], _, _ => rfl
  | (j, v) :: r, h, t => by
    simp only [List.all_cons, Bool.and_eq_true] at h
    simp only [get]
    split
    · exact h.1
    · exact get_noRef h.2 t
theorem get_env0 (args : List PV) (t : Nat) : get (env0 args) t = args.getD t .undef := by
  have key : ∀ (args : List PV) (k t : Nat), get ((args.zipIdx k).map fun x => (x.2, x.1)) t = if k ≤ t then args.getD (t - k) .undef else .undef := by
    intro args
    induction args with
    | nil => intro k t; simp [get]
    | cons x xs ih =>
      intro k t
      simp only [List.zipIdx_cons, List.map_cons, get, ih]
      by_cases e : k = t
      · subst e; simp
      · rw [if_neg e]
        by_cases h : k ≤ t
        · rw [if_pos h, if_pos (by omega)]
          rw [show t - k = (t - (k + 1)) + 1 from by omega]
          simp
        · rw [if_neg h, if_neg (by omega)]
  have := key args 0 t
  simpa [env0] using this

section
variable {P : Program} {K : KW} {H : Hp} {N : Nat} {env : Env} {a : Act}

theorem run_results (hE : ERel K N env a) (hH : HRel K H) : ∀ {rs : List ResultVar} {ps : List PRes} {vs : List PV}, resOk P rs ps = true → resL env H ps = some vs →
    ∃ l : List Value, (rs.mapM (fun (x : ResultVar) => (match x with | .tmp t => Pure.pure (a.tmps.getD t Go.undef) | .cell x t => (do loadVar t (← asAddr (a.tmps.getD x Go.undef))) : Sem Value))).run P K.w = Result.ok l K.w ∧ RepL K vs l
  | [], [], vs, _, h => by
    simp only [resL, Option.some.injEq] at h
    subst h
    exact ⟨[], rfl, rfl⟩
  | [], _ :: _, _, h, _ => by simp [resOk] at h
  | .tmp _ :: _, [], _, h, _ => by simp [resOk] at h
  | .cell _ _ :: _, [], _, h, _ => by simp [resOk] at h
  | .tmp t :: rs, .tmp t' :: ps, vs, h, he => by
    simp only [resOk, Bool.and_eq_true, beq_iff_eq] at h
    obtain ⟨rfl, h⟩ := h
    simp only [resL, resV, Option.bind_some, Option.map_eq_some_iff] at he
    obtain ⟨vs', hv, rfl⟩ := he
    obtain ⟨l, hl, hr⟩ := run_results hE hH h hv
    refine ⟨a.tmps.getD t Go.undef :: l, ?_, ⟨_, _, rfl, hE.slot t, hr⟩⟩
    simp only [List.mapM_cons, Sem.run_bind, Sem.run_pure, Result.andThen_ok, hl]
  | .tmp _ :: _, .cell _ _ :: _, _, h, _ => by simp [resOk] at h
  | .cell _ _ :: _, .tmp _ :: _, _, h, _ => by simp [resOk] at h
  | .cell x ty :: rs, .cell x' n :: ps, vs, h, he => by
    simp only [resOk, Bool.and_eq_true, beq_iff_eq] at h
    obtain ⟨⟨⟨rfl, h1⟩, h2⟩, h3⟩ := h
    simp only [resL, resV, Option.bind_eq_some_iff, Option.map_eq_some_iff] at he
    obtain ⟨v, hv, vs', hvs, rfl⟩ := he
    obtain ⟨l, hl, hr⟩ := run_results hE hH h3 hvs
    have hx := hE.slot x
    have hrun : ∃ u, (do loadVar ty (← asAddr (a.tmps.getD x Go.undef)) : Sem Value).run P K.w = .ok u K.w ∧ Rep K v u := by
      generalize get env x = px at hv hx
      cases px <;> simp only [evLd, reduceCtorEq] at hv
      case pptr bor xs off =>
        obtain ⟨_, _, g, oo, hv', _, hrow⟩ := hx
        obtain ⟨u, hu, hru⟩ := run_loadVar_pv h1 hrow h2 hv
        exact ⟨u, by simp only [Sem.run_bind, hv', asAddr, Sem.run_pure, Result.andThen_ok, hu], hru⟩
      case mptr b gen off =>
        obtain ⟨g, nn, hm, hv'⟩ := hx
        split at hv
        case h_2 => cases hv
        rename_i B hB
        split at hv
        case isFalse => cases hv
        rename_i hg
        subst hg
        obtain ⟨u, hu, hru⟩ := run_loadVar_pv h1 (hH.row hB hm) h2 hv
        rw [Nat.zero_add] at hu
        exact ⟨u, by simp only [Sem.run_bind, hv', asAddr, Sem.run_pure, Result.andThen_ok, hu], hru⟩
    obtain ⟨u, hu, hru⟩ := hrun
    refine ⟨u :: l, ?_, ⟨_, _, rfl, hru, hr⟩⟩
    simp only [List.mapM_cons, Sem.run_bind] at hu ⊢
    simp only [hu, Sem.run_pure, Result.andThen_ok, hl]

theorem run_retV (hE : ERel K N env a) (hH : HRel K H) {fn : Func} {ps : List PRes} {v : PV} (hok : resOk P fn.results.toList ps = true) (he : retV env H ps = some v) : ∃ rv, (results fn a.tmps).run P K.w = .ok rv K.w ∧ Rep K v rv := by
  unfold retV at he
  rw [Option.map_eq_some_iff] at he
  obtain ⟨vs, hvs, hv⟩ := he
  obtain ⟨l, hl, hr⟩ := run_results hE hH hok hvs
  have hrun : (results fn a.tmps).run P K.w = .ok (if h : l.toArray.size = 1 then l.toArray[0] else .tuple l.toArray) K.w := by
    unfold results
    rw [Array.mapM_eq_mapM_toList]
    simp only [Sem.run_bind, Sem.run_map]
    erw [hl]
    rfl
  refine ⟨_, hrun, ?_⟩
  subst hv
  have hlen := hr.length
  by_cases h1 : l.length = 1
  · obtain ⟨u, rfl⟩ := List.length_eq_one_iff.1 h1
    obtain ⟨x, rfl⟩ := List.length_eq_one_iff.1 (hlen.trans h1)
    obtain ⟨_, _, e, hx, _⟩ := hr
    simp only [List.cons.injEq] at e
    rw [← e.1] at hx
    simpa using hx
  · rw [dif_neg (by simpa using h1)]
    have : (match vs with | [v] => v | vs => PV.tup vs) = .tup vs := by
      match vs, hlen with
      | [], _ => rfl
      | [x], h => exact absurd h.symm h1
      | _ :: _ :: _, _ => rfl
    rw [this]
    exact ⟨_, rfl, by simpa using hr⟩

/-- What a code's soundness says. -/
def ExOk (P : Program) (ex : PCode → Env → Hp → Option (PX × Env × Hp)) : Prop :=
  ∀ (N : Nat) (pc : PCode) (c : Code) (K : KW) (H : Hp) (env : Env) (a : Act) (x : PX) (env' : Env) (H' : Hp), codeOk P N pc c = true → HRel K H → ERel K N env a → ex pc env H = some (x, env', H') →
    ∀ (Q : Exit → Act → World → Prop), (∀ K' a', Ext K H K' H' → HRel K' H' → ERel K' N env' a' → Q x.to a' K'.w) → c.wp P Q a K.w

theorem findF_mem : ∀ {l : List (Nat × PFn)} {f : Nat} {F : PFn}, findF l f = some F → (f, F) ∈ l
  | [], _, _, h => by simp [findF] at h
  | (k, G) :: l, f, F, h => by
    simp only [findF] at h
    split at h
    · rename_i e
      simp at h
      subst e; subst h
      simp
    · exact List.mem_cons_of_mem _ (findF_mem h)

theorem fnOk_spec {f : Nat} {F : PFn} (h : fnOk P f F = true) : ∃ fn c, P.funcs[f]? = some fn ∧ fn.body = some c ∧ FnIn P f ∧ fn.ntmps = F.nt ∧ F.np ≤ F.nt ∧ resOk P fn.results.toList F.res = true ∧ codeOk P F.nt F.body c = true := by
  unfold fnOk at h
  split at h
  case h_2 => cases h
  rename_i fn hfn
  simp only [Bool.and_eq_true, bne_iff_ne, ne_eq, beq_iff_eq, decide_eq_true_eq] at h
  obtain ⟨⟨⟨⟨h1, h2⟩, h3⟩, h4⟩, h5⟩ := h
  split at h5
  case h_2 => cases h5
  rename_i c hc
  exact ⟨fn, c, hfn, hc, ⟨fn, hfn, by simpa using h1, by rw [hc]; rfl⟩, h2, h3, h4, h5⟩

theorem erel_enter {K : KW} {args : List PV} {vs : Array Value} {nt np : Nat} (ha : RepL K args vs.toList) (hl : args.length = np) (hn : np ≤ nt) : ERel K nt (env0 args) { tmps := vs ++ Array.replicate (nt - vs.size) Go.undef, defers := [] } := by
  have hvs : vs.size = np := by have := ha.length; simp at this; omega
  refine ⟨by simp [hvs]; omega, rfl, fun t => ?_⟩
  rw [get_env0]
  by_cases ht : t < args.length
  · obtain ⟨v, hv, hr⟩ := ha.get t _ (List.getElem?_eq_getElem ht)
    have hv' : vs[t]? = some v := by simpa using hv
    simp only [List.getD_eq_getElem?_getD, List.getElem?_eq_getElem ht, Option.getD_some, Array.getD_eq_getD_getElem?, Array.getElem?_append]
    rw [if_pos (by omega), hv']
    exact hr
  · simp only [List.getD_eq_getElem?_getD, List.getElem?_eq_none (Nat.le_of_not_lt ht), Option.getD_none]
    trivial

theorem Ext.below {K : KW} {w : World} {Z Y : Nat → Prop} (h : Ext ⟨w, Z, Y, noMu⟩ [] K H) : Below w.heap.size w K.w :=
  ⟨h.le.os, h.le.tape, h.le.output, h.le.size, fun k hk => h.frame k hk (by rintro ⟨b, B, n, hb, _⟩; simp at hb)⟩

theorem hrel_nil (w : World) (Z Y : Nat → Prop) (h : ∀ g, Z g ∨ Y g → g < w.heap.size) : HRel ⟨w, Z, Y, noMu⟩ [] :=
  ⟨by simp, by simp, fun _ _ _ => rfl, h⟩

variable {T : Table} {ex : PCode → Env → Hp → Option (PX × Env × Hp)}

theorem ends_post {R : Ending → World → Prop} {fn : Func} {x : PX} {a' : Act} {w' : World} (hx : ends x = true) (hd : a'.defers = []) {v : Value} (hv : (results fn a'.tmps).run P w' = .ok v w') (hR : R (.returned v) w') : bodyPost P fn R x.to a' w' := by
  cases x <;> simp [ends] at hx <;> exact ⟨hd, v, hv, hR⟩

theorem callP_ok (hT : TOk P T) (hex : ExOk P ex) (f : Nat) (args : List PV) (r : PV) (he : callP T ex f args = some r) : PureOk P f args r := by
  unfold callP at he
  split at he
  · rename_i r' hr
    simp only [Option.some.injEq] at he
    subst he
    exact hT.nat f args r' hr
  · simp only [Option.bind_eq_some_iff] at he
    obtain ⟨F, hF, he⟩ := he
    split at he
    case isFalse => cases he
    rename_i hnp
    simp only [Option.bind_eq_some_iff] at he
    obtain ⟨⟨x, env', H'⟩, hx, he⟩ := he
    split at he
    case isFalse => cases he
    rename_i hends
    simp only [Option.bind_eq_some_iff] at he
    obtain ⟨v, hv, v', hfr, he⟩ := he
    split at he
    case isFalse => cases he
    rename_i hcl
    simp only [Option.some.injEq] at he
    subst he
    obtain ⟨fn, c, hfn, hb, hin, hnt, hle, hres, hcode⟩ := fnOk_spec (hT.fns _ (findF_mem hF))
    refine ⟨hin, fun w Z Y vs hlt ha => ?_⟩
    refine calls_of_wp hfn hb ?_
    have hE := erel_enter ha hnp hle
    rw [← hnt] at hE
    refine hex F.nt F.body c ⟨w, Z, Y, noMu⟩ [] (env0 args) _ x env' H' hcode (hrel_nil w Z Y hlt) (by rw [hnt] at hE; rw [hnt]; exact hE) hx _ (fun K1 a1 hX hH hE1 => ?_)
    obtain ⟨rv, hrv, hrep⟩ := run_retV hE1 hH hres hv
    refine ends_post hends hE1.defers hrv ⟨rv, rfl, hX.below, ?_⟩
    have hlive : ∀ g, Live K1 H' g → w.heap.size ≤ g ∧ g < K1.w.heap.size := fun g hg => ⟨(hX.live g hg).elim (by rintro ⟨b, B, n, hb, _⟩; simp at hb) id, hH.live_lt hg⟩
    obtain ⟨h1, h2⟩ := frz_spec (K' := ⟨K1.w, fun g => Z g ∨ (w.heap.size ≤ g ∧ g < K1.w.heap.size), Y, noMu⟩) (.inr rfl) hH rfl
      (fun g hg => (hX.zb g hg).imp id (fun q => ⟨q, hH.lt g (.inl hg)⟩)) (fun g hg => .inr (hX.yb g hg)) (fun g hg => .inl (.inr (hlive g hg))) 64 v v' rv hfr hrep
    exact ⟨Rep.clean_of v' rv h1 hcl, h1⟩

theorem callO_ok (hT : TOk P T) (hex : ExOk P ex) (f : Nat) (args : List PV) (H : Hp) (r : PV) (H' : Hp) (he : callO T ex f args H = some (r, H')) : OpenOk P f args H r H' := by
  unfold callO at he
  split at he
  · rename_i r' hr
    simp only [Option.some.injEq] at he
    subst he
    exact hT.natO f args H _ _ hr
  · simp only [Option.bind_eq_some_iff] at he
    obtain ⟨F, hF, he⟩ := he
    split at he
    case isFalse => cases he
    rename_i hnp
    simp only [Option.bind_eq_some_iff] at he
    obtain ⟨⟨x, env', H1⟩, hx, he⟩ := he
    split at he
    case isFalse => cases he
    rename_i hends
    simp only [Option.map_eq_some_iff, Prod.mk.injEq] at he
    obtain ⟨v, hv, rfl, rfl⟩ := he
    obtain ⟨fn, c, hfn, hb, hin, hnt, hle, hres, hcode⟩ := fnOk_spec (hT.fns _ (findF_mem hF))
    refine ⟨hin, fun K vs hH ha => ?_⟩
    refine calls_of_wp hfn hb ?_
    have hE := erel_enter ha hnp hle
    refine hex F.nt F.body c K H (env0 args) _ x env' H1 hcode hH (by rw [hnt]; exact hE) hx _ (fun K1 a1 hX hH1 hE1 => ?_)
    obtain ⟨rv, hrv, hrep⟩ := run_retV hE1 hH1 hres hv
    exact ends_post hends hE1.defers hrv ⟨rv, K1, rfl, rfl, hX, hH1, hrep⟩

theorem ERel.norm {K : KW} {N : Nat} {env : Env} {a : Act} (h : ERel K N env a) (live : List Nat) : ERel K N (normE live env) a := ⟨h.size, h.defers, fun t => by
  rw [get_normE]
  split
  · exact h.slot t
  · trivial⟩

theorem trim_ok {K K' : KW} {H H' : Hp} {N : Nat} {env : Env} {a : Act} (hH : HRel K H) (hX : Ext K H K' H') (hH' : HRel K' H') (hE : ERel K' N env a) (ht : trimOk H.length env H' = true) :
    ∃ K2, K2.w = K'.w ∧ Ext K H K2 (H'.take H.length) ∧ HRel K2 (H'.take H.length) ∧ ERel K2 N env a := by
  simp only [trimOk, Bool.and_eq_true] at ht
  obtain ⟨ht1, ht2⟩ := ht
  have hget : ∀ b B, (H'.take H.length)[b]? = some B → b < H.length ∧ H'[b]? = some B := by
    intro b B hb
    rw [List.getElem?_take] at hb
    split at hb
    · exact ⟨by assumption, hb⟩
    · cases hb
  refine ⟨⟨K'.w, K'.Z, K'.Y, fun b gen => if b < H.length then K'.μ b gen else none⟩, rfl, ⟨⟨hX.le.os, hX.le.tape, hX.le.output, hX.le.size, hX.le.keep, hX.le.z, hX.le.y, ?_⟩, hX.frame, ?_, hX.zb, hX.yb⟩, ⟨?_, ?_, ?_, hH'.lt⟩, ⟨hE.size, hE.defers, fun t => Rep.trim _ _ (get_noRef ht1 t) (hE.slot t)⟩⟩
  · intro b n p hp
    have hb : b < H.length := by
      apply Classical.byContradiction
      intro hno
      rw [hH.fresh b n (fun B hB => by rw [List.getElem?_eq_none (by omega)] at hB; cases hB)] at hp
      cases hp
    simp only [if_pos hb]
    exact hX.le.mu b n p hp
  · rintro g ⟨b, B, n, hb, hm⟩
    obtain ⟨h1, h2⟩ := hget b B hb
    simp only [if_pos h1] at hm
    exact hX.live g ⟨b, B, n, h2, hm⟩
  · intro b B hb
    obtain ⟨h1, h2⟩ := hget b B hb
    simp only [if_pos h1]
    rcases hH'.blk b B h2 with h | ⟨g, cur, hm, hh, hz, hy, hl, hr, h3⟩
    · exact .inl h
    · exact .inr ⟨g, cur, hm, hh, hz, hy, hl, RepL.trim _ _ (List.all_eq_true.1 ht2 B (List.mem_of_getElem? hb)) hr, h3⟩
  · intro b b' B B' g n n' hb hb' hm hm'
    obtain ⟨h1, h2⟩ := hget b B hb
    obtain ⟨h1', h2'⟩ := hget b' B' hb'
    simp only [if_pos h1] at hm
    simp only [if_pos h1'] at hm'
    exact hH'.inj b b' B B' g n n' h2 h2' hm hm'
  · intro b gen hgn
    by_cases hb : b < H.length
    · simp only [if_pos hb]
      exact hH'.fresh b gen (fun B hB => hgn B (by rw [List.getElem?_take, if_pos hb]; exact hB))
    · simp only [if_neg hb]

/-- A loop, by the number of rounds that are left. -/
theorem wp_loop_n {c : Code} {Q : Exit → Act → World → Prop} (I : Nat → Act → World → Prop) {n : Nat} {w : World} (h₀ : I n a w)
    (round : ∀ n a w, I n a w → c.wp P (Exit.then (fun a' w' => ∃ m, m < n ∧ I m a' w') Q) a w) : (Code.loop c).wp P Q a w := by
  intro b k cs
  have key : ∀ n a w, I n a w → ∃ e a' w', Q e a' w' ∧ Arrives P (lone (b.at a (.code c :: .inLoop c :: k)) cs w) b k cs e a' w' := by
    intro n
    induction n using Nat.strongRecOn with
    | _ n ih =>
      intro a w hI
      obtain ⟨e, a₁, w₁, hq, harr⟩ := round n a w hI b (.inLoop c :: k) cs
      cases e with
      | normal =>
        obtain ⟨m, hlt, hI₁⟩ := hq
        obtain ⟨e₂, a₂, w₂, hq₂, harr₂⟩ := ih m hlt a₁ w₁ hI₁
        exact ⟨e₂, a₂, w₂, hq₂, .of_steps (Steps.trans harr (.one step_inLoop)) harr₂⟩
      | exit id => exact ⟨_, a₁, w₁, hq, .pass (x := .inLoop c) rfl (fun _ _ => .inl (by simp)) harr⟩
      | goto l => exact ⟨_, a₁, w₁, hq, .pass (x := .inLoop c) rfl (fun _ _ => .inl (by simp)) harr⟩
      | ret => exact ⟨_, a₁, w₁, hq, .pass (x := .inLoop c) rfl (fun _ _ => .inl (by simp)) harr⟩
      | panic ch => exact ⟨_, a₁, w₁, hq, .pass (x := .inLoop c) rfl (fun _ _ => .inl (by simp)) harr⟩
      | outgrown => exact ⟨_, a₁, w₁, hq, .pass (x := .inLoop c) rfl (fun _ _ => .inl (by simp)) harr⟩
  obtain ⟨e, a', w', hq, harr⟩ := key _ a w h₀
  exact ⟨e, a', w', hq, .of_steps (.one step_loop) harr⟩

theorem step_ok (hT : TOk P T) (hex : ExOk P ex) {N : Nat} {pc : PCode} {c : Code} {K : KW} {H : Hp} {env : Env} {a : Act} {x : PX} {env' : Env} {H' : Hp} (hnl : ∀ p, pc ≠ .loop p) (hok : codeOk P N pc c = true) (hH : HRel K H) (hE : ERel K N env a)
    (he : step T ex pc env H = some (x, env', H')) (Q : Exit → Act → World → Prop) (hQ : ∀ K' a', Ext K H K' H' → HRel K' H' → ERel K' N env' a' → Q x.to a' K'.w) : c.wp P Q a K.w := by
  cases pc <;> simp only [codeOk] at hok <;> simp only [step] at he
  case skip =>
    split at hok
    · simp only [Option.some.injEq, Prod.mk.injEq] at he
      obtain ⟨rfl, rfl, rfl⟩ := he
      exact wp_skip (hQ K a (Ext.refl _ _) hH hE)
    · cases hok
  case reg rs chk live =>
    rw [Option.map_eq_some_iff] at he
    obtain ⟨⟨e1, H1⟩, hr, h2⟩ := he
    simp only [Prod.mk.injEq] at h2
    obtain ⟨rfl, rfl, rfl⟩ := h2
    split at hok
    case h_2 => cases hok
    rename_i id ops draw
    simp only [Bool.and_eq_true] at hok
    cases draw
    · have hrun : runSeq (callP T ex) (callO T ex) fzB T.meth rs env H = some (e1, H1) := by
        have hc : chk = [] := by simpa using hok.2
        subst hc
        exact hr
      exact region_ok (callP_ok hT hex) (callO_ok hT hex) fzB_ok hT.meth hok.1 hH hE hrun (fun K' a' hX hH' hE' => hQ K' a' hX hH' (hE'.norm live))
    · exact draw_ok (callP_ok hT hex) (callO_ok hT hex) fzB_ok hT.meth hT.mix hok.1 (by simpa using hok.2) hH hE hr (fun K' a' hX hH' hE' => hQ K' a' hX hH' (hE'.norm live))
  case seq p q =>
    rw [Option.bind_eq_some_iff] at he
    obtain ⟨⟨y, e1, H1⟩, h1, h2⟩ := he
    split at hok
    case h_2 => cases hok
    rename_i a' b'
    simp only [Bool.and_eq_true] at hok
    refine wp_seq ?_
    refine hex N p a' K H env a y e1 H1 hok.1 hH hE h1 _ (fun K1 a1 hX1 hH1 hE1 => ?_)
    cases y with
    | normal =>
      simp only at h2
      exact hex N q b' K1 H1 e1 a1 x env' H' hok.2 hH1 hE1 h2 _ (fun K' a' hX hH' hE' => hQ K' a' (hX1.trans hX) hH' hE')
    | exit id =>
      simp only [Option.some.injEq, Prod.mk.injEq] at h2
      obtain ⟨rfl, rfl, rfl⟩ := h2
      exact hQ K1 a1 hX1 hH1 hE1
    | ret =>
      simp only [Option.some.injEq, Prod.mk.injEq] at h2
      obtain ⟨rfl, rfl, rfl⟩ := h2
      exact hQ K1 a1 hX1 hH1 hE1
  case cond q p1 p2 =>
    split at hok
    case h_2 => cases hok
    rename_i X a' b'
    simp only [Bool.and_eq_true] at hok
    split at he
    case h_2 => cases he
    rename_i t ht
    have hx := opd_rep hE hok.1.1
    rw [ht] at hx
    have hx' : a.eval X = .bool t := hx
    refine wp_cond hx' ?_
    cases t
    · exact hex N p2 b' K H env a x env' H' hok.2 hH hE he Q hQ
    · exact hex N p1 a' K H env a x env' H' hok.1.2 hH hE he Q hQ
  case blk id p =>
    rw [Option.map_eq_some_iff] at he
    obtain ⟨⟨y, e1, H1⟩, h1, h2⟩ := he
    split at hok
    case h_2 => cases hok
    rename_i id' a'
    simp only [Bool.and_eq_true, beq_iff_eq] at hok
    obtain ⟨rfl, hok⟩ := hok
    refine wp_block ?_
    refine hex N p a' K H env a y e1 H1 hok hH hE h1 _ (fun K1 a1 hX1 hH1 hE1 => ?_)
    cases y with
    | normal =>
      simp only [Prod.mk.injEq] at h2
      obtain ⟨rfl, rfl, rfl⟩ := h2
      exact hQ K1 a1 hX1 hH1 hE1
    | ret =>
      simp only [Prod.mk.injEq] at h2
      obtain ⟨rfl, rfl, rfl⟩ := h2
      exact hQ K1 a1 hX1 hH1 hE1
    | exit i =>
      simp only [PX.to, Exit.inBlock]
      simp only at h2
      split at h2
      · rename_i e
        simp only [Prod.mk.injEq] at h2
        obtain ⟨rfl, rfl, rfl⟩ := h2
        rw [if_pos e]
        exact hQ K1 a1 hX1 hH1 hE1
      · rename_i e
        simp only [Prod.mk.injEq] at h2
        obtain ⟨rfl, rfl, rfl⟩ := h2
        rw [if_neg e]
        exact hQ K1 a1 hX1 hH1 hE1
  case loop p => exact absurd rfl (hnl p)
  case trim p =>
    rw [Option.bind_eq_some_iff] at he
    obtain ⟨⟨y, e1, H1⟩, h1, h2⟩ := he
    split at h2
    case isFalse => cases h2
    rename_i ht
    simp only [Option.some.injEq, Prod.mk.injEq] at h2
    obtain ⟨rfl, rfl, rfl⟩ := h2
    refine hex N p c K H env a y e1 H1 hok hH hE h1 _ (fun K1 a1 hX1 hH1 hE1 => ?_)
    obtain ⟨K2, hw, hX2, hH2, hE2⟩ := trim_ok hH hX1 hH1 hE1 ht
    rw [← hw]
    exact hQ K2 a1 hX2 hH2 hE2
  case ext id =>
    split at hok
    case h_2 => cases hok
    simp only [beq_iff_eq] at hok
    subst hok
    simp only [Option.some.injEq, Prod.mk.injEq] at he
    obtain ⟨rfl, rfl, rfl⟩ := he
    exact wp_exit (hQ K a (Ext.refl _ _) hH hE)
  case ret =>
    split at hok
    case h_2 => cases hok
    simp only [Option.some.injEq, Prod.mk.injEq] at he
    obtain ⟨rfl, rfl, rfl⟩ := he
    exact wp_ret (hQ K a (Ext.refl _ _) hH hE)
  case bad => cases he

theorem loop_ok (hT : TOk P T) {n : Nat} (hex : ∀ m, m ≤ n → ExOk P (pexec T m)) {N : Nat} {p : PCode} {c : Code} {K : KW} {H : Hp} {env : Env} {a : Act} {x : PX} {env' : Env} {H' : Hp} (hok : codeOk P N p c = true) (hH : HRel K H) (hE : ERel K N env a)
    (he : pexec T (n + 1) (.loop p) env H = some (x, env', H')) (Q : Exit → Act → World → Prop) (hQ : ∀ K' a', Ext K H K' H' → HRel K' H' → ERel K' N env' a' → Q x.to a' K'.w) : (Code.loop c).wp P Q a K.w := by
  refine wp_loop_n (fun m a1 w1 => m ≤ n + 1 ∧ ∃ K1 H1 e1, K1.w = w1 ∧ Ext K H K1 H1 ∧ HRel K1 H1 ∧ ERel K1 N e1 a1 ∧ pexec T m (.loop p) e1 H1 = some (x, env', H')) (n := n + 1) ⟨Nat.le_refl _, K, H, env, rfl, Ext.refl _ _, hH, hE, he⟩ ?_
  rintro m a1 w1 ⟨hm, K1, H1, e1, rfl, hX1, hH1, hE1, he1⟩
  cases m with
  | zero => cases he1
  | succ m =>
    simp only [pexec, step, Option.bind_eq_some_iff] at he1
    obtain ⟨⟨y, e2, H2⟩, h1, h2⟩ := he1
    refine hex m (by omega) N p c K1 H1 e1 a1 y e2 H2 hok hH1 hE1 h1 _ (fun K2 a2 hX2 hH2 hE2 => ?_)
    cases y with
    | normal => exact ⟨m, by omega, by omega, K2, H2, e2, rfl, hX1.trans hX2, hH2, hE2, h2⟩
    | exit id =>
      simp only [Option.some.injEq, Prod.mk.injEq] at h2
      obtain ⟨rfl, rfl, rfl⟩ := h2
      exact hQ K2 a2 (hX1.trans hX2) hH2 hE2
    | ret =>
      simp only [Option.some.injEq, Prod.mk.injEq] at h2
      obtain ⟨rfl, rfl, rfl⟩ := h2
      exact hQ K2 a2 (hX1.trans hX2) hH2 hE2

theorem pexec_all (hT : TOk P T) : ∀ n m, m ≤ n → ExOk P (pexec T m)
  | 0, m, hm => by
    obtain rfl : m = 0 := by omega
    intro N pc c K H env a x env' H' _ _ _ he
    cases he
  | n + 1, m, hm => by
    rcases Nat.lt_or_ge m (n + 1) with h | h
    · exact pexec_all hT n m (by omega)
    · obtain rfl : m = n + 1 := by omega
      have ih := pexec_all hT n
      intro N pc c K H env a x env' H' hok hH hE he Q hQ
      by_cases hl : ∃ p, pc = .loop p
      · obtain ⟨p, rfl⟩ := hl
        simp only [codeOk] at hok
        split at hok
        · exact loop_ok hT ih hok hH hE he Q hQ
        · cases hok
      · exact step_ok hT (ih n (Nat.le_refl _)) (fun p e => hl ⟨p, e⟩) hok hH hE he Q hQ
theorem pexec_ok (hT : TOk P T) (n : Nat) : ExOk P (pexec T n) := pexec_all hT n n (Nat.le_refl _)

/-- **A call by value, as the evaluator tells it, is a call of the model's.** -/
theorem pcall_ok (hT : TOk P T) {n f : Nat} {args : List PV} {r : PV} (h : pcall T n f args = some r) : PureOk P f args r := callP_ok hT (pexec_ok hT n) f args r h
end
end Go.Proofs.Ytmbknidfkddpfaa.PM
