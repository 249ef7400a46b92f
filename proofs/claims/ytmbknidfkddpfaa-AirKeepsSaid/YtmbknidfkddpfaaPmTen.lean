/- The pure machine, part 10: a region whose operations may come in any order that its edges allow. -/
import Derived.Test.YtmbknidfkddpfaaPmNine
set_option linter.unusedVariables false
set_option linter.unusedSimpArgs false
namespace Go.Proofs.Ytmbknidfkddpfaa.PM
open Go.RowKit (Below)

def normE (live : List Nat) (env : Env) : Env := live.map fun t => (t, get env t)
theorem get_normE (live : List Nat) (env : Env) (t : Nat) : get (normE live env) t = if t ∈ live then get env t else .undef := by
  induction live with
  | nil => simp [normE, get]
  | cons x xs ih =>
    simp only [normE, List.map_cons, get] at ih ⊢
    by_cases e : x = t
    · subst e; simp
    · rw [if_neg e, ih]
      have : t ∈ x :: xs ↔ t ∈ xs := by
        rw [List.mem_cons]
        exact ⟨fun q => q.resolve_left (fun q => e q.symm), .inr⟩
      simp only [this]

def usesO : POpd → List Nat
  | .tmp t => [t]
  | .val _ => []
def usesL (xs : List POpd) : List Nat := xs.flatMap usesO
def usesP (ps : List (Nat × Nat × POpd)) : List Nat := ps.flatMap fun p => usesO p.2.2
def usesM (x : Option POpd) : List Nat := match x with | some x => usesO x | none => []
def POp.uses : POp → List Nat
  | .mv x | .boxp _ x | .boxm _ x | .ld _ x | .nck x | .un _ x | .conv _ x | .ext _ x | .mkif _ x | .fld _ _ x | .faddr _ x | .len x => usesO x
  | .nacc _ _ | .zer _ _ | .lenA _ | .mkm _ | .bad => []
  | .mln _ m | .clr _ _ m => usesO m
  | .mlk _ _ _ m k | .mpe _ _ m k | .eqp _ m k => usesO m ++ usesO k
  | .mup _ m k v | .est _ m k v => usesO m ++ usesO k ++ usesO v
  | .pick c a b => usesO c ++ usesO a ++ usesO b
  | .bld _ ps | .bsl _ _ _ ps | .bslm _ _ _ _ ps => usesP ps
  | .st _ a x | .bin _ a x | .eqb _ a x | .eqn _ a x | .eqs _ _ a x | .ixA _ _ _ a x | .iaS _ a x | .iaA _ _ a x | .mks _ _ _ _ a x | .app _ _ _ a x | .appp _ _ _ a x => usesO a ++ usesO x
  | .mkf _ fs cs => usesL fs ++ usesL cs
  | .mn x xs | .mx x xs => usesO x ++ usesL xs
  | .slc _ x lo hi m => usesO x ++ usesM lo ++ usesM hi ++ usesM m
  | .slcA _ _ x lo hi => usesO x ++ usesM lo ++ usesM hi
  | .call _ _ xs => usesL xs
  | .callv x _ xs | .inv x _ _ xs => usesO x ++ usesL xs

section
variable {cp : Nat → List PV → Option PV} {co : Nat → List PV → Hp → Option (PV × Hp)} {fz : Hp → List PV → Option (List PV)} {meth : Nat → String → Option Nat}
variable {e1 e2 : Env}

theorem ev_congr {x : POpd} (h : ∀ t ∈ usesO x, get e1 t = get e2 t) : ev e1 x = ev e2 x := by cases x <;> simp [ev]; exact h _ (by simp [usesO])
theorem evs_congr {xs : List POpd} (h : ∀ t ∈ usesL xs, get e1 t = get e2 t) : evs e1 xs = evs e2 xs := by
  unfold evs
  exact List.map_congr_left fun x hx => ev_congr fun t ht => h t (List.mem_flatMap.2 ⟨x, hx, ht⟩)
theorem evps_congr {ps : List (Nat × Nat × POpd)} (h : ∀ t ∈ usesP ps, get e1 t = get e2 t) : evps e1 ps = evps e2 ps := by
  unfold evps
  exact List.map_congr_left fun p hp => by rw [ev_congr fun t ht => h t (List.mem_flatMap.2 ⟨p, hp, ht⟩)]
theorem evm_congr {x : Option POpd} (h : ∀ t ∈ usesM x, get e1 t = get e2 t) : x.map (ev e1) = x.map (ev e2) := by
  cases x with
  | none => rfl
  | some x => simp only [Option.map_some]; rw [ev_congr fun t ht => h t ht]
theorem evOp_congr (H : Hp) {p : POp} (h : ∀ t ∈ p.uses, get e1 t = get e2 t) : evOp cp co fz meth e1 H p = evOp cp co fz meth e2 H p := by
  unfold evOp
  cases p <;> simp only [POp.uses, List.mem_append] at h <;> simp only [isE, Bool.false_eq_true, if_false, if_true]
  case mv x => simp only [evR, ev_congr h]
  case nacc => rfl
  case pick c a b => simp only [evR, ev_congr fun t ht => h t (.inl (.inl ht)), ev_congr fun t ht => h t (.inl (.inr ht)), ev_congr fun t ht => h t (.inr ht)]
  case boxp e x => simp only [evR, ev_congr h]
  case boxm e x => simp only [evE, ev_congr h]
  case zer => rfl
  case bld z ps => simp only [evR, evps_congr h]
  case bsl n sz z ps => simp only [evR, evps_congr h]
  case bslm e n sz z ps => simp only [evE, evps_congr h]
  case ld n x => simp only [evR, ev_congr h]
  case st n a x => simp only [evE, ev_congr fun t ht => h t (.inl ht), ev_congr fun t ht => h t (.inr ht)]
  case nck x => simp only [evR, ev_congr h]
  case bin op x y => simp only [evR, ev_congr fun t ht => h t (.inl ht), ev_congr fun t ht => h t (.inr ht)]
  case un op x => simp only [evR, ev_congr h]
  case conv k x => simp only [evR, ev_congr h]
  case eqb neg x y => simp only [evR, ev_congr fun t ht => h t (.inl ht), ev_congr fun t ht => h t (.inr ht)]
  case eqn neg x y => simp only [evR, ev_congr fun t ht => h t (.inl ht), ev_congr fun t ht => h t (.inr ht)]
  case eqs neg ks x y => simp only [evR, ev_congr fun t ht => h t (.inl ht), ev_congr fun t ht => h t (.inr ht)]
  case ext i x => simp only [evR, ev_congr h]
  case mkif t x => simp only [evR, ev_congr h]
  case mkf fn fs cs => simp only [evR, evs_congr fun t ht => h t (.inl ht), evs_congr fun t ht => h t (.inr ht)]
  case fld n off x => simp only [evR, ev_congr h]
  case ixA n sz m x i => simp only [evR, ev_congr fun t ht => h t (.inl ht), ev_congr fun t ht => h t (.inr ht)]
  case faddr off x => simp only [evR, ev_congr h]
  case iaS sz x i => simp only [evR, ev_congr fun t ht => h t (.inl ht), ev_congr fun t ht => h t (.inr ht)]
  case iaA n sz x i => simp only [evR, ev_congr fun t ht => h t (.inl ht), ev_congr fun t ht => h t (.inr ht)]
  case len x => simp only [evR, ev_congr h]
  case lenA => rfl
  case mn x xs => simp only [evR, ev_congr fun t ht => h t (.inl ht), evs_congr fun t ht => h t (.inr ht)]
  case mx x xs => simp only [evR, ev_congr fun t ht => h t (.inl ht), evs_congr fun t ht => h t (.inr ht)]
  case mks e sz bytes z l c => simp only [evE, ev_congr fun t ht => h t (.inl ht), ev_congr fun t ht => h t (.inr ht)]
  case slc sz x lo hi mx => simp only [evR, ev_congr fun t ht => h t (.inl (.inl (.inl ht))), evm_congr fun t ht => h t (.inl (.inl (.inr ht))), evm_congr fun t ht => h t (.inl (.inr ht)), evm_congr fun t ht => h t (.inr ht)]
  case slcA n sz x lo hi => simp only [evR, ev_congr fun t ht => h t (.inl (.inl ht)), evm_congr fun t ht => h t (.inl (.inr ht)), evm_congr fun t ht => h t (.inr ht)]
  case appp e sz bytes s x => simp only [evR, ev_congr fun t ht => h t (.inl ht), ev_congr fun t ht => h t (.inr ht)]
  case app e sz bytes s x => simp only [evE, ev_congr fun t ht => h t (.inl ht), ev_congr fun t ht => h t (.inr ht)]
  case mkm => rfl
  case eqp neg x y => simp only [evR, ev_congr fun t ht => h t (.inl ht), ev_congr fun t ht => h t (.inr ht)]
  case clr sz z x => simp only [evE, ev_congr h]
  case mup kn m k v => simp only [evE, ev_congr fun t ht => h t (.inl (.inl ht)), ev_congr fun t ht => h t (.inl (.inr ht)), ev_congr fun t ht => h t (.inr ht)]
  case mlk kn z c m k => simp only [evR, ev_congr fun t ht => h t (.inl ht), ev_congr fun t ht => h t (.inr ht)]
  case mln kn m => simp only [evR, ev_congr h]
  case mpe kn z m k => simp only [evE, ev_congr fun t ht => h t (.inl ht), ev_congr fun t ht => h t (.inr ht)]
  case est kn m s v => simp only [evE, ev_congr fun t ht => h t (.inl (.inl ht)), ev_congr fun t ht => h t (.inl (.inr ht)), ev_congr fun t ht => h t (.inr ht)]
  case call f m xs => cases m <;> simp [isE, evR, evE, evs_congr h]
  case callv x m xs => cases m <;> simp [isE, evR, evE, ev_congr fun t ht => h t (.inl ht), evs_congr fun t ht => h t (.inr ht)]
  case inv x name m xs => cases m <;> simp [isE, evR, evE, ev_congr fun t ht => h t (.inl ht), evs_congr fun t ht => h t (.inr ht)]
  case bad => simp [isE, evR]
end

/-- Does not look at the small heap. -/
def isN : POp → Bool
  | .ld .. | .appp .. | .mlk .. | .mln .. | .call .. | .callv .. | .inv .. => false
  | p => !isE p
theorem evR_N {cp : Nat → List PV → Option PV} {fz : Hp → List PV → Option (List PV)} {meth : Nat → String → Option Nat} {env : Env} {H H' : Hp} {p : POp} (h : isN p = true) : evR cp fz meth env H p = evR cp fz meth env H' p := by
  cases p <;> first | rfl | simp [isN, isE] at h

/-! ### What comes before what -/
inductive Bef (ops : Array Oper) : Nat → Nat → Prop
  | edge {p k : Nat} {o : Oper} {e : Edge} (ho : ops[k]? = some o) (he : e ∈ o.after.toList) (hb : Region.binds .any e = true) (hp : e.on = p) : Bef ops p k
  | trans {p q k : Nat} (h1 : Bef ops p q) (h2 : Bef ops q k) : Bef ops p k
theorem Bef.closed {ops : Array Oper} {S : Nat → Prop} (hS : ∀ k o, S k → ops[k]? = some o → ∀ e ∈ o.after.toList, Region.binds .any e = true → S e.on) {p k : Nat} (h : Bef ops p k) : S k → S p := by
  induction h with
  | edge ho he hb hp => intro hk; rw [← hp]; exact hS _ _ hk ho _ he hb
  | trans _ _ ih1 ih2 => exact fun hk => ih1 (ih2 hk)

theorem after_bits (acc : Array Nat) (p : Nat) : ∀ (es : List Edge) (s : Nat), (es.foldl (fun s e => if Region.binds .any e then s ||| 2 ^ e.on ||| acc.getD e.on 0 else s) s).testBit p = true →
    s.testBit p = true ∨ ∃ e ∈ es, Region.binds .any e = true ∧ (e.on = p ∨ (acc.getD e.on 0).testBit p = true)
  | [], s, h => .inl h
  | e :: es, s, h => by
    rcases after_bits acc p es _ h with h | ⟨e', he', hb, hp⟩
    · simp only at h
      split at h
      · rename_i hb
        rw [Nat.testBit_or, Nat.testBit_or, Nat.testBit_two_pow, Bool.or_eq_true, Bool.or_eq_true, decide_eq_true_eq] at h
        rcases h with (h | h) | h
        · exact .inl h
        · exact .inr ⟨e, by simp, hb, .inl h⟩
        · exact .inr ⟨e, by simp, hb, .inr h⟩
      · exact .inl h
    · exact .inr ⟨e', by simp [he'], hb, hp⟩
theorem before_ok (ops : Array Oper) : ∀ (k p : Nat), ((Region.before ops).getD k 0).testBit p = true → Bef ops p k := by
  have key : ∀ (os done : List Oper) (acc : Array Nat), done ++ os = ops.toList → acc.size = done.length → (∀ k p, (acc.getD k 0).testBit p = true → Bef ops p k) →
      ∀ k p, ((os.foldl (fun acc o => acc.push (o.after.foldl (fun s e => if Region.binds .any e then s ||| 2 ^ e.on ||| acc.getD e.on 0 else s) 0)) acc).getD k 0).testBit p = true → Bef ops p k := by
    intro os
    induction os with
    | nil => intro done acc _ _ h k p hk; exact h k p hk
    | cons o os ih =>
      intro done acc hd hs h k p hk
      rw [List.foldl_cons] at hk
      refine ih (done ++ [o]) _ (by simpa using hd) (by simp [hs]) ?_ k p hk
      intro k p hk
      by_cases e : k < acc.size
      · rw [Array.getD_eq_getD_getElem?, Array.getElem?_push, if_neg (by omega), ← Array.getD_eq_getD_getElem?] at hk
        exact h k p hk
      · by_cases e2 : k = acc.size
        · subst e2
          rw [Array.getD_eq_getD_getElem?, Array.getElem?_push, if_pos rfl, Option.getD_some, ← Array.foldl_toList] at hk
          have ho : ops[acc.size]? = some o := by
            have : ops.toList[acc.size]? = some o := by rw [← hd, hs]; simp
            simpa using this
          rcases after_bits acc p o.after.toList 0 hk with h0 | ⟨e', he', hb, hp | hp⟩
          · simp at h0
          · exact .edge ho he' hb hp
          · exact .trans (h _ _ hp) (.edge ho he' hb rfl)
        · rw [Array.getD_eq_getD_getElem?, Array.getElem?_push, if_neg e2, Array.getElem?_eq_none (by omega)] at hk
          simp at hk
  intro k p hk
  unfold Region.before at hk
  rw [← Array.foldl_toList] at hk
  exact key ops.toList [] #[] (by simp) (by simp) (by intro k p h; simp at h) k p hk

def usesR (r : ROp) : List Nat := r.op.uses ++ (match r.guard with | some (g, _) => [g] | none => [])
def lt (B : Array Nat) (p k : Nat) : Bool := (B.getD k 0).testBit p
def slotOk (B : Array Nat) (rk : ROp) (k p : Nat) (rp : ROp) : Bool :=
  p == k || (match rp.dst with | some d => if (usesR rk).contains d || rk.dst == some d then (if p < k then lt B p k else lt B k p) else true | none => true)
def effOk (B : Array Nat) (chk : List (Nat × Nat)) (rk : ROp) (k j : Nat) (rj : ROp) : Bool :=
  if isE rk.op then (!isE rj.op || j == k || (if j < k then lt B j k else lt B k j)) else isN rk.op || !isE rj.op || lt B j k || lt B k j || (chk.contains (k, j) && chk.contains (k, j + 1))
def edgeOk (o : Oper) (k : Nat) : Bool := o.after.toList.all fun e => !Region.binds .any e || decide (e.on < k)
def drawOk (ops : Array Oper) (rs : List ROp) (chk : List (Nat × Nat)) : Bool :=
  let B := Region.before ops
  rs.length == ops.size && (ops.toList.zipIdx.all fun x => edgeOk x.1 x.2) && rs.zipIdx.all fun x => rs.zipIdx.all fun y => slotOk B x.1 x.2 y.2 y.1 && effOk B chk x.1 x.2 y.2 y.1

section
variable (cp : Nat → List PV → Option PV) (co : Nat → List PV → Hp → Option (PV × Hp)) (fz : Hp → List PV → Option (List PV)) (meth : Nat → String → Option Nat)
/-- Operation k tells the same over the small heap as it is ahead of operation p. -/
def ckOne (rs : List ROp) (env : Env) (H : Hp) (c : Nat × Nat) : Bool :=
  match runSeq cp co fz meth (rs.take c.1) env H, runSeq cp co fz meth (rs.take c.2) env H, rs[c.1]? with
  | some (e, Hk), some (_, Hp), some r => (match gd e r.guard with
    | some true => optEq (evR cp fz meth e Hp r.op) (evR cp fz meth e Hk r.op)
    | some false => true
    | none => false)
  | _, _, _ => false
def runReg (rs : List ROp) (chk : List (Nat × Nat)) (env : Env) (H : Hp) : Option (Env × Hp) :=
  match chk with
  | [] => runSeq cp co fz meth rs env H
  | chk => if chk.all (ckOne cp co fz meth rs env H) then runSeq cp co fz meth rs env H else none
end

section
variable {P : Program} {cp : Nat → List PV → Option PV} {co : Nat → List PV → Hp → Option (PV × Hp)} {fz : Hp → List PV → Option (List PV)} {meth : Nat → String → Option Nat}

/-- The run in the text's order, place by place. -/
structure Run (cp : Nat → List PV → Option PV) (co : Nat → List PV → Hp → Option (PV × Hp)) (fz : Hp → List PV → Option (List PV)) (meth : Nat → String → Option Nat) (rs : List ROp) (env : Env) (H : Hp) (env' : Env) (H' : Hp)
    (E : Nat → Env) (Hs : Nat → Hp) (V : Nat → PV) (Bs : Nat → Bool) : Prop where
  e0 : E 0 = env
  h0 : Hs 0 = H
  en : E rs.length = env'
  hn : Hs rs.length = H'
  gd : ∀ i r, rs[i]? = some r → gd (E i) r.guard = some (Bs i)
  put : ∀ i r, rs[i]? = some r → E (i + 1) = put (E i) r.dst (V i)
  yes : ∀ i r, rs[i]? = some r → Bs i = true → evOp cp co fz meth (E i) (Hs i) r.op = some (V i, Hs (i + 1))
  no : ∀ i r, rs[i]? = some r → Bs i = false → V i = .tup [] ∧ Hs (i + 1) = Hs i
  pre : ∀ i, i ≤ rs.length → runSeq cp co fz meth (rs.take i) env H = some (E i, Hs i)

theorem Run.of : ∀ {rs : List ROp} {env : Env} {H : Hp} {env' : Env} {H' : Hp}, runSeq cp co fz meth rs env H = some (env', H') → ∃ E Hs V Bs, Run cp co fz meth rs env H env' H' E Hs V Bs
  | [], env, H, env', H', h => by
    simp only [runSeq, Option.some.injEq, Prod.mk.injEq] at h
    obtain ⟨rfl, rfl⟩ := h
    refine ⟨fun _ => env, fun _ => H, fun _ => .undef, fun _ => true, rfl, rfl, rfl, rfl, by simp, by simp, by simp, by simp, fun i hi => ?_⟩
    obtain rfl : i = 0 := by simpa using hi
    rfl
  | r :: rs, env, H, env', H', h => by
    simp only [runSeq, Option.bind_eq_some_iff] at h
    obtain ⟨b, hb, h⟩ := h
    have mk : ∀ (v : PV) (H1 : Hp), (b = true → evOp cp co fz meth env H r.op = some (v, H1)) → (b = false → v = .tup [] ∧ H1 = H) → runSeq cp co fz meth rs (PM.put env r.dst v) H1 = some (env', H') →
        (∀ n, runSeq cp co fz meth (r :: rs.take n) env H = runSeq cp co fz meth (rs.take n) (PM.put env r.dst v) H1) → ∃ E Hs V Bs, Run cp co fz meth (r :: rs) env H env' H' E Hs V Bs := by
      intro v H1 hy hn hrun hpre
      obtain ⟨E, Hs, V, Bs, R⟩ := Run.of hrun
      refine ⟨fun i => match i with | 0 => env | i + 1 => E i, fun i => match i with | 0 => H | i + 1 => Hs i, fun i => match i with | 0 => v | i + 1 => V i, fun i => match i with | 0 => b | i + 1 => Bs i, rfl, rfl, R.en, R.hn, ?_, ?_, ?_, ?_, ?_⟩
      · intro i q hq
        cases i with
        | zero => simp at hq; subst hq; exact hb
        | succ i => simp at hq; exact R.gd i q hq
      · intro i q hq
        cases i with
        | zero => simp at hq; subst hq; exact R.e0
        | succ i => simp at hq; exact R.put i q hq
      · intro i q hq hbb
        cases i with
        | zero => simp at hq; subst hq; simp only at hbb ⊢; rw [R.h0]; exact hy hbb
        | succ i => simp at hq; exact R.yes i q hq hbb
      · intro i q hq hbb
        cases i with
        | zero => simp at hq; subst hq; simp only at hbb ⊢; rw [R.h0]; exact hn hbb
        | succ i => simp at hq; exact R.no i q hq hbb
      · intro i hi
        cases i with
        | zero => rfl
        | succ i =>
          rw [List.take_succ_cons, hpre]
          exact R.pre i (by simpa using hi)
    cases b
    · simp only [Bool.false_eq_true, if_false] at h
      exact mk (.tup []) H (by simp) (fun _ => ⟨rfl, rfl⟩) h (fun n => by simp [runSeq, hb])
    · simp only [if_true, Option.bind_eq_some_iff] at h
      obtain ⟨⟨v, H1⟩, hv, h⟩ := h
      exact mk v H1 (fun _ => hv) (by simp) h (fun n => by simp [runSeq, hb, hv])

/-- Slot t holds x, the operations of L having been carried out. -/
def IsVal (rs : List ROp) (env : Env) (V : Nat → PV) (L : Nat → Prop) (t : Nat) (x : PV) : Prop :=
  (∃ p r, L p ∧ rs[p]? = some r ∧ r.dst = some t ∧ x = V p ∧ ∀ q r', p < q → L q → rs[q]? = some r' → r'.dst ≠ some t) ∨ ((∀ q r', L q → rs[q]? = some r' → r'.dst ≠ some t) ∧ x = get env t)

theorem Run.isVal {rs : List ROp} {env : Env} {H : Hp} {env' : Env} {H' : Hp} {E : Nat → Env} {Hs : Nat → Hp} {V : Nat → PV} {Bs : Nat → Bool} (R : Run cp co fz meth rs env H env' H' E Hs V Bs) (t : Nat) :
    ∀ i, i ≤ rs.length → IsVal rs env V (· < i) t (get (E i) t)
  | 0, _ => .inr ⟨fun q r' h => by omega, by rw [R.e0]⟩
  | i + 1, hi => by
    have hr : rs[i]? = some rs[i] := List.getElem?_eq_getElem (by omega)
    rw [R.put i _ hr]
    cases hd : rs[i].dst with
    | none =>
      simp only [PM.put]
      rcases R.isVal t i (by omega) with ⟨p, r, hp, hr', hdr, hx, hlast⟩ | ⟨hno, hx⟩
      · refine .inl ⟨p, r, by omega, hr', hdr, hx, fun q r' hpq hq hrq => ?_⟩
        by_cases e : q = i
        · subst e; rw [hr] at hrq; simp at hrq; subst hrq; rw [hd]; simp
        · exact hlast q r' hpq (by omega) hrq
      · refine .inr ⟨fun q r' hq hrq => ?_, hx⟩
        by_cases e : q = i
        · subst e; rw [hr] at hrq; simp at hrq; subst hrq; rw [hd]; simp
        · exact hno q r' (by omega) hrq
    | some d =>
      simp only [PM.put, get]
      by_cases e : d = t
      · subst e
        rw [if_pos rfl]
        exact .inl ⟨i, _, by omega, hr, hd, rfl, fun q r' h1 h2 => by omega⟩
      · rw [if_neg e]
        have hne : rs[i].dst ≠ some t := by rw [hd]; simpa using e
        rcases R.isVal t i (by omega) with ⟨p, r, hp, hr', hdr, hx, hlast⟩ | ⟨hno, hx⟩
        · refine .inl ⟨p, r, by omega, hr', hdr, hx, fun q r' hpq hq hrq => ?_⟩
          by_cases e : q = i
          · subst e; rw [hr] at hrq; simp at hrq; subst hrq; exact hne
          · exact hlast q r' hpq (by omega) hrq
        · refine .inr ⟨fun q r' hq hrq => ?_, hx⟩
          by_cases e : q = i
          · subst e; rw [hr] at hrq; simp at hrq; subst hrq; exact hne
          · exact hno q r' (by omega) hrq

theorem evOp_nE {env : Env} {H H' : Hp} {p : POp} {v : PV} (h : evOp cp co fz meth env H p = some (v, H')) (hp : isE p = false) : H' = H ∧ evR cp fz meth env H p = some v := by
  unfold evOp at h
  rw [if_neg (by rw [hp]; simp), Option.map_eq_some_iff] at h
  obtain ⟨v', h1, h2⟩ := h
  simp only [Prod.mk.injEq] at h2
  obtain ⟨rfl, rfl⟩ := h2
  exact ⟨rfl, h1⟩
theorem evOp_of_R {env : Env} {H : Hp} {p : POp} {v : PV} (h : evR cp fz meth env H p = some v) (hp : isE p = false) : evOp cp co fz meth env H p = some (v, H) := by
  unfold evOp
  rw [if_neg (by rw [hp]; simp), h]
  rfl

theorem Run.const {rs : List ROp} {env : Env} {H : Hp} {env' : Env} {H' : Hp} {E : Nat → Env} {Hs : Nat → Hp} {V : Nat → PV} {Bs : Nat → Bool} (R : Run cp co fz meth rs env H env' H' E Hs V Bs) :
    ∀ (d i : Nat), i + d ≤ rs.length → (∀ q r, i ≤ q → q < i + d → rs[q]? = some r → isE r.op = false) → Hs (i + d) = Hs i
  | 0, i, _, _ => rfl
  | d + 1, i, hi, h => by
    have ih := R.const d i (by omega) (fun q r h1 h2 hr => h q r h1 (by omega) hr)
    have hr : rs[i + d]? = some rs[i + d] := List.getElem?_eq_getElem (by omega)
    rw [← ih]
    cases hb : Bs (i + d) with
    | false => exact (R.no _ _ hr hb).2
    | true => exact (evOp_nE (R.yes _ _ hr hb) (h _ _ (by omega) (by omega) hr)).1
theorem Run.same {rs : List ROp} {env : Env} {H : Hp} {env' : Env} {H' : Hp} {E : Nat → Env} {Hs : Nat → Hp} {V : Nat → PV} {Bs : Nat → Bool} (R : Run cp co fz meth rs env H env' H' E Hs V Bs) {p q : Nat} (hp : p ≤ rs.length) (hq : q ≤ rs.length)
    (h : ∀ j r, rs[j]? = some r → isE r.op = true → (j < p ↔ j < q)) : Hs p = Hs q := by
  rcases Nat.le_total p q with hle | hle
  · have := R.const (q - p) p (by omega) (fun j r h1 h2 hr => by
      cases he : isE r.op with
      | false => rfl
      | true => have := h j r hr he; omega)
    rw [show p + (q - p) = q from by omega] at this
    exact this.symm
  · have := R.const (p - q) q (by omega) (fun j r h1 h2 hr => by
      cases he : isE r.op with
      | false => rfl
      | true => have := h j r hr he; omega)
    rw [show q + (p - q) = p from by omega] at this
    exact this

end
end Go.Proofs.Ytmbknidfkddpfaa.PM
