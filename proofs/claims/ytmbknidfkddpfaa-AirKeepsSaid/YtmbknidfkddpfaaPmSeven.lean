/- The pure machine, part 7: operations with their operands; calls; which model operation each stands for. -/
import Derived.Test.YtmbknidfkddpfaaPmTwentyTwo
set_option linter.unusedVariables false
set_option linter.unusedSimpArgs false
namespace Go.Proofs.Ytmbknidfkddpfaa.PM

inductive POpd where
  | tmp (t : Nat)
  | val (v : PV)
  deriving Inhabited

/-- How a function is called: by value, or with the caller's small heap. -/
inductive Md where
  | pure | opn
  deriving DecidableEq, Inhabited

inductive POp where
  | mv (x : POpd)
  | nacc (e sz : Nat)
  | pick (c a b : POpd)
  | boxp (e : Nat) (x : POpd)
  | boxm (e : Nat) (x : POpd)
  | zer (e : Nat) (z : PV)
  | bld (z : List PV) (ps : List (Nat × Nat × POpd))
  | bsl (n sz : Nat) (z : List PV) (ps : List (Nat × Nat × POpd))
  | bslm (e n sz : Nat) (z : List PV) (ps : List (Nat × Nat × POpd))
  | ld (n : Option Nat) (x : POpd)
  | st (n : Nat) (a x : POpd)
  | nck (x : POpd)
  | bin (op : BinOp) (x y : POpd)
  | un (op : UnOp) (x : POpd)
  | conv (k : IntKind) (x : POpd)
  | eqb (neg : Bool) (x y : POpd)
  | eqn (neg : Bool) (x y : POpd)
  | eqs (neg : Bool) (ks : List Bool) (x y : POpd)
  | ext (i : Nat) (x : POpd)
  | mkif (t : Nat) (x : POpd)
  | mkf (fn : Fn) (fs cs : List POpd)
  | fld (n : Option Nat) (off : Nat) (x : POpd)
  | ixA (n sz : Nat) (m : Option Nat) (x i : POpd)
  | faddr (off : Nat) (x : POpd)
  | iaS (sz : Nat) (x i : POpd)
  | iaA (n sz : Nat) (x i : POpd)
  | len (x : POpd)
  | lenA (n : Nat)
  | mn (x : POpd) (xs : List POpd)
  | mx (x : POpd) (xs : List POpd)
  | mks (e sz bytes : Nat) (z : List PV) (l c : POpd)
  | slc (sz : Nat) (x : POpd) (lo hi mx : Option POpd)
  | slcA (n sz : Nat) (x : POpd) (lo hi : Option POpd)
  | app (e sz bytes : Nat) (s x : POpd)
  | appp (e sz bytes : Nat) (s x : POpd)
  | call (f : Nat) (m : Md) (xs : List POpd)
  | callv (x : POpd) (m : Md) (xs : List POpd)
  | inv (x : POpd) (name : String) (m : Md) (xs : List POpd)
  /-- Maps: a new one, an entry, a look, the length, an entry's stamp, a store at a stamp. -/
  | mkm (kn : Option Nat)
  | mup (kn : Option Nat) (m k v : POpd)
  | mlk (kn : Option Nat) (z : PV) (cok : Bool) (m k : POpd)
  | mln (kn : Option Nat) (m : POpd)
  | mpe (kn : Option Nat) (z : PV) (m k : POpd)
  | est (kn : Option Nat) (m s v : POpd)
  | eqp (neg : Bool) (x y : POpd)
  | clr (sz : Nat) (z : List PV) (x : POpd)
  /-- What is not covered: it has no value. -/
  | bad
  deriving Inhabited

abbrev Env := List (Nat × PV)
def get : Env → Nat → PV
  | [], _ => .undef
  | (k, v) :: r, t => if k = t then v else get r t
def put (env : Env) (d : Option Nat) (v : PV) : Env := match d with | some d => (d, v) :: env | none => env
def ev (env : Env) : POpd → PV
  | .tmp t => get env t
  | .val v => v
def evs (env : Env) (xs : List POpd) : List PV := xs.map (ev env)
def evps (env : Env) (ps : List (Nat × Nat × POpd)) : List (Nat × Nat × PV) := ps.map fun p => (p.1, p.2.1, ev env p.2.2)

/-- What a function value is called with. -/
def cloArgs (x : PV) (xs : List PV) : Option (Nat × List PV) := match x with | .clo (.func f) a b => some (f, a ++ xs ++ b) | _ => none
def isIntV : PV → Bool | .int _ _ => true | _ => false

/-- A check for nil; a method's value of an interface holds its receiver. -/
def evNckM (meth : Nat → String → Option Nat) (x : PV) : Option PV :=
  match x with
  | .clo (.method name) [.iface t v] c => if (meth t name).isSome then some (.clo (.method name) [.iface t v] c) else none
  | x => evNck x
section
variable (cp : Nat → List PV → Option PV) (co : Nat → List PV → Hp → Option (PV × Hp)) (fz : Hp → List PV → Option (List PV)) (meth : Nat → String → Option Nat)

/-- A call by value: what has no part in the small heap may hand on what it borrowed. -/
def evCp (cp : Nat → List PV → Option PV) (fz : Hp → List PV → Option (List PV)) (H : Hp) (f : Nat) (az : List PV) : Option PV :=
  if PV.pureLB az then cp f az else (fz H az).bind fun ys => (cp f ys).bind fun r => if r.cleanB then some r else none
/-- The operations that leave the small heap as it is. -/
def evR (env : Env) (H : Hp) : POp → Option PV
  | .mv x => some (ev env x)
  | .pick c a b => evPick (ev env c) (ev env a) (ev env b)
  | .boxp _ x => evBoxp (ev env x)
  | .bld z ps => evBld z (evps env ps)
  | .bsl n sz z ps => evBsl n sz z (evps env ps)
  | .ld n x => evLd n (ev env x) H
  | .nck x => evNckM meth (ev env x)
  | .bin op x y => evBin op (ev env x) (ev env y)
  | .un op x => evUn op (ev env x)
  | .conv k x => evConv k (ev env x)
  | .eqb neg x y => evEqb neg (ev env x) (ev env y)
  | .eqn neg x y => evEqNil neg (ev env x) (ev env y)
  | .eqs neg ks x y => evEqs neg ks (ev env x) (ev env y)
  | .ext i x => evExt i (ev env x)
  | .mkif t x => some (.iface t (ev env x))
  | .mkf fn fs cs => some (.clo fn (evs env fs) (evs env cs))
  | .fld n off x => evFld n off (ev env x)
  | .ixA n sz m x i => evIxA n sz m (ev env x) (ev env i)
  | .faddr off x => evFaddr off (ev env x)
  | .iaS sz x i => evIaS sz (ev env x) (ev env i)
  | .iaA n sz x i => evIaA n sz (ev env x) (ev env i)
  | .len x => evLen (ev env x)
  | .lenA n => some (.int .i64 n)
  | .mn x xs => if isIntV (ev env x) then evMin (ev env x) (evs env xs) else none
  | .mx x xs => if isIntV (ev env x) then evMax (ev env x) (evs env xs) else none
  | .slc sz x lo hi mx => evSlc sz (ev env x) (lo.map (ev env)) (hi.map (ev env)) (mx.map (ev env))
  | .slcA n sz x lo hi => evSlcA n sz (ev env x) (lo.map (ev env)) (hi.map (ev env))
  | .appp e sz bytes s x => evAppp e sz bytes (ev env s) (ev env x) H
  | .mlk kn z cok m k => evMlk kn z cok (ev env m) (ev env k) H
  | .eqp neg x y => evEqp neg (ev env x) (ev env y)
  | .mln kn m => evMln kn (ev env m) H
  | .call f .pure xs => evCp cp fz H f (evs env xs)
  | .callv x .pure xs => (cloArgs (ev env x) (evs env xs)).bind fun q => evCp cp fz H q.1 q.2
  | .inv x name .pure xs => match ev env x with | .iface t v => (meth t name).bind fun f => evCp cp fz H f (v :: evs env xs) | _ => none
  | _ => none

/-- The operations that change the small heap. -/
def evE (env : Env) (H : Hp) : POp → Option (PV × Hp)
  | .nacc e sz => some (.msl true H.length 0 0 0 sz, H ++ [⟨e, 0, [], none⟩])
  | .boxm e x => evBoxm e (ev env x) H
  | .zer e z => evBoxm e z H
  | .bslm e n sz z ps => evBslm e n sz z (evps env ps) H
  | .st n a x => (evSt n (ev env a) (ev env x) H).map fun H' => (.undef, H')
  | .mks e sz bytes z l c => evMks e sz bytes z (ev env l) (ev env c) H
  | .app e sz bytes s x => evApp e sz bytes (ev env s) (ev env x) H
  | .mkm kn => some (evMkm kn H)
  | .clr sz z x => evClr sz z (ev env x) H
  | .mup kn m k v => (evMup kn (ev env m) (ev env k) (ev env v) H).map fun H' => (.undef, H')
  | .mpe kn z m k => evMpe kn z (ev env m) (ev env k) H
  | .est kn m s v => (evEst kn (ev env m) (ev env s) (ev env v) H).map fun H' => (.undef, H')
  | .call f .opn xs => co f (evs env xs) H
  | .callv x .opn xs => (cloArgs (ev env x) (evs env xs)).bind fun q => co q.1 q.2 H
  | .inv x name .opn xs => match ev env x with | .iface t v => (meth t name).bind fun f => co f (v :: evs env xs) H | _ => none
  | _ => none

def isE : POp → Bool
  | .nacc .. | .boxm .. | .zer .. | .bslm .. | .st .. | .mks .. | .app .. | .mkm .. | .mup .. | .mpe .. | .est .. | .clr .. | .call _ .opn _ | .callv _ .opn _ | .inv _ _ .opn _ => true
  | _ => false

def evOp (env : Env) (H : Hp) (p : POp) : Option (PV × Hp) := if isE p then evE co meth env H p else (evR cp fz meth env H p).map fun v => (v, H)
end

/-! ### Which model operation -/
mutual
def cvk : PV → Value → Bool
  | .bool b, v => (match v with | .bool a => a == b | _ => false)
  | .int k n, v => (match v with | .int k' a => k' == k && a == n | _ => false)
  | .str t, v => (match v with | .string s => s.data == t.data | _ => false)
  | .list nl sz xs, v => (match v with | .slice none n c => n == 0 && c == 0 && nl == .nil && xs.isEmpty && decide (0 < sz) | _ => false)
  | .nilptr, v => (match v with | .pointer none => true | _ => false)
  | .nilfn, v => (match v with | .nilFunc => true | _ => false)
  | .nilif, v => (match v with | .nilIface => true | _ => false)
  | .nilmap, v => (match v with | .map none => true | _ => false)
  | .agg xs, v => (match v with | .agg cs => cvkL xs cs.toList | _ => false)
  | .tup xs, v => (match v with | .tuple cs => cvkL xs cs.toList | _ => false)
  | _, _ => false
def cvkL : List PV → List Value → Bool
  | [], vs => vs.isEmpty
  | x :: xs, vs => (match vs with | v :: vs => cvk x v && cvkL xs vs | [] => false)
end
mutual
theorem cvk_rep (K : KW) : ∀ (x : PV) (v : Value), cvk x v = true → Rep K x v
  | .bool b, v, h => by
    unfold cvk at h
    split at h
    · simp at h; subst h; rfl
    · cases h
  | .int k n, v, h => by
    unfold cvk at h
    split at h
    · simp at h; obtain ⟨rfl, rfl⟩ := h; rfl
    · cases h
  | .str t, v, h => by
    unfold cvk at h
    split at h
    · rename_i s
      have h' := eq_of_beq h
      have : s = t := by cases t; cases s; exact congrArg ByteArray.mk h'
      rw [this]; rfl
    · cases h
  | .list nl sz xs, v, h => by
    unfold cvk at h
    split at h
    · simp only [Bool.and_eq_true, beq_iff_eq, List.isEmpty_iff, decide_eq_true_eq] at h
      obtain ⟨⟨⟨⟨rfl, rfl⟩, rfl⟩, rfl⟩, h⟩ := h
      exact ⟨h, by simp [PV.cleanL], none, 0, 0, rfl, by simp, ⟨rfl, rfl, rfl⟩, .inl rfl⟩
    · cases h
  | .nilptr, v, h => by
    unfold cvk at h
    split at h
    · rfl
    · cases h
  | .nilfn, v, h => by
    unfold cvk at h
    split at h
    · rfl
    · cases h
  | .nilif, v, h => by
    unfold cvk at h
    split at h
    · rfl
    · cases h
  | .nilmap, v, h => by
    unfold cvk at h
    split at h
    · rfl
    · cases h
  | .agg xs, v, h => by
    unfold cvk at h
    split at h
    · exact ⟨_, rfl, cvkL_rep K xs _ h⟩
    · cases h
  | .tup xs, v, h => by
    unfold cvk at h
    split at h
    · exact ⟨_, rfl, cvkL_rep K xs _ h⟩
    · cases h
  | .undef, v, h => trivial
  | .msl .., v, h => by simp [cvk] at h
  | .pptr .., v, h => by simp [cvk] at h
  | .mptr .., v, h => by simp [cvk] at h
  | .clo .., v, h => by simp [cvk] at h
  | .iface .., v, h => by simp [cvk] at h
theorem cvkL_rep (K : KW) : ∀ (xs : List PV) (l : List Value), cvkL xs l = true → RepL K xs l
  | [], l, h => by simp only [cvkL, List.isEmpty_iff] at h; exact h
  | x :: xs, l, h => by
    unfold cvkL at h
    split at h
    · rename_i v vs
      simp only [Bool.and_eq_true] at h
      exact ⟨v, vs, rfl, cvk_rep K x v h.1, cvkL_rep K xs vs h.2⟩
    · cases h
end
def cvOk (v : Value) (x : PV) : Bool := cvk x v
def cvOkL (vs : List Value) (xs : List PV) : Bool := cvkL xs vs
theorem cvOk_rep (K : KW) (x : PV) (v : Value) (h : cvOk v x = true) : Rep K x v := cvk_rep K x v h
theorem cvOkL_rep (K : KW) (xs : List PV) (l : List Value) (h : cvOkL l xs = true) : RepL K xs l := cvkL_rep K xs l h

def opdOk : Operand → POpd → Bool
  | .tmp t, .tmp t' => t == t'
  | .const v, .val x => cvOk v x
  | .func f, .val (.clo (.func f') [] []) => f == f'
  | _, _ => false
def opdsOk : List Operand → List POpd → Bool
  | [], [] => true
  | X :: Xs, x :: xs => opdOk X x && opdsOk Xs xs
  | _, _ => false
def opdOptOk : Option Operand → Option POpd → Bool
  | none, none => true
  | some X, some x => opdOk X x
  | _, _ => false
def partsEq (f : Nat → Option (Nat × Nat)) : List (Nat × Operand) → List (Nat × Nat × POpd) → Bool
  | [], [] => true
  | (i, X) :: Xs, (off, size, x) :: xs => f i == some (off, size) && opdOk X x && partsEq f Xs xs
  | _, _ => false

def aggN (P : Program) (t : TypeId) : Option Nat := if isAggT P t then some (P.cellsOf t) else none
/-- The zero value of a type. -/
def zeroIs (P : Program) (e : TypeId) (z : List PV) : Bool := match P.info? e with | some i => (match i.zero with | some zv => cvOkL zv.cells.toList z | none => false) | none => false

def cvNil : Operand → Bool | .const v => cvOk v (.list .nil 1 []) | _ => false
def sliceIs (P : Program) (t e sz : Nat) : Bool := match P.underlying t with | some (.slice e') => e' == e && hasT P e && P.cellsOf e == sz && decide (0 < sz) | _ => false
def sliceSz (P : Program) (t sz : Nat) : Bool := match P.underlying t with | some (.slice e) => hasT P e && sz == P.cellsOf e | _ => false
def arrayIs (P : Program) (t n sz : Nat) : Bool := match P.underlying t with | some (.array len e) => hasT P e && len == n && sz == P.cellsOf e | _ => false
/-- Maps of a kind of keys, and the zero value of their values. -/
def mapIs (P : Program) (t : Nat) (kn : Option Nat) : Bool := match P.underlying t with | some (.map kt _) => keyTy P kt kn | _ => false
def mapZ (P : Program) (t : Nat) (kn : Option Nat) (z : PV) : Bool := match P.underlying t with | some (.map kt e) => keyTy P kt kn && (match P.info? e with | some i => (match i.zero with | some zv => cvOk zv z | none => false) | none => false) | _ => false
def isMapT (P : Program) (t : Nat) : Bool := match P.underlying t with | some (.map _ _) => true | _ => false
def negOp (neg : Bool) : BinOp := if neg then .neq else .eql
def isSliceT (P : Program) (t : Nat) : Bool := match P.underlying t with | some (.slice _) => true | _ => false

def opOk (P : Program) (o : Op) : POp → Bool
  | .mv x => (match o with | .move X => opdOk X x | .assign X => opdOk X x | _ => false)
  | .nacc e sz => (match o with | .move X => cvNil X && decide (0 < sz) | .assign X => cvNil X && decide (0 < sz) | _ => false)
  | .pick c a b => (match o with | .pick C A B => opdOk C c && opdOk A a && opdOk B b | _ => false)
  | .boxp e x => (match o with | .box e' X => e' == e && opdOk X x | _ => false)
  | .boxm e x => (match o with | .box e' X => e' == e && opdOk X x | _ => false)
  | .zer e z => (match o with | .alloc e' => e' == e && (match P.info? e with | some i => (match i.zero with | some zv => cvOk zv z | none => false) | none => false) | _ => false)
  | .bld z ps => (match o with
      | .build t parts => zeroIs P t z && (match P.underlying t with
        | some (.struct fs) => fs.toList.all (fun f => hasT P f.type) && partsEq (fun i => (fs[i]?).map fun f => (f.offset, P.cellsOf f.type)) parts.toList ps
        | some (.array _ e) => hasT P e && partsEq (fun i => some (i * P.cellsOf e, P.cellsOf e)) parts.toList ps
        | _ => false)
      | _ => false)
  | .bsl n sz z ps => (match o with
      | .buildSlice t n' parts => n' == n && (match P.underlying t with | some (.slice e) => sliceIs P t e sz && zeroIs P e z && z.length == sz && decide (n * sz ≤ 16777216) && partsEq (fun i => some (i * sz, sz)) parts.toList ps | _ => false)
      | _ => false)
  | .bslm e n sz z ps => (match o with
      | .buildSlice t n' parts => n' == n && sliceIs P t e sz && zeroIs P e z && z.length == sz && decide (n * sz ≤ 16777216) && partsEq (fun i => some (i * sz, sz)) parts.toList ps
      | _ => false)
  | .ld n x => (match o with | .load t X => hasT P t && n == aggN P t && opdOk X x | _ => false)
  | .st n a x => (match o with | .store t A X => hasT P t && n == P.cellsOf t && opdOk A a && opdOk X x | _ => false)
  | .nck x => (match o with | .nilCheck X => opdOk X x | _ => false)
  | .bin op x y => (match o with | .binOp op' _ X Y _ => op' == op && opdOk X x && opdOk Y y | _ => false)
  | .un op x => (match o with | .unOp op' _ X => op' == op && opdOk X x | _ => false)
  | .conv k x => (match o with | .convert s d X => (P.underlying s).isSome && (match P.underlying d with | some (.int k') => k' == k | _ => false) && opdOk X x | _ => false)
  | .eqb neg x y => (match o with | .binOp op t X Y _ => op == negOp neg && (match P.underlying t with | some .bool => true | _ => false) && opdOk X x && opdOk Y y | _ => false)
  | .eqn neg x y => (match o with | .binOp op t X Y _ => op == negOp neg && isSliceT P t && opdOk X x && opdOk Y y | _ => false)
  | .eqs neg ks x y => (match o with
      | .binOp op t X Y _ => op == negOp neg && (match P.underlying t with | some (.struct _) => true | _ => false) && !P.stoodInHeld t && !P.eqGuardType P.depth t && flatFields2 P ks (P.fieldsOf t).toList 0 && opdOk X x && opdOk Y y
      | _ => false)
  | .ext i x => (match o with | .extract X i' => i' == i && opdOk X x | _ => false)
  | .mkif t x => (match o with | .makeInterface t' X => t' == t && (match P.underlying t with | some (.interface _) => false | some _ => true | none => false) && opdOk X x | _ => false)
  | .mkf fn fs cs => (match o with | .makeFunc fn' fs' cs' => fn' == fn && opdsOk fs'.toList fs && opdsOk cs'.toList cs | _ => false)
  | .fld n off x => (match o with | .field t X i => (match P.underlying t with | some (.struct fs) => (match fs[i]? with | some f => hasT P f.type && n == aggN P f.type && off == f.offset | none => false) | _ => false) && opdOk X x | _ => false)
  | .ixA n sz m x i => (match o with | .index t X I => (match P.underlying t with | some (.array len e) => hasT P e && len == n && sz == P.cellsOf e && m == aggN P e | _ => false) && opdOk X x && opdOk I i | _ => false)
  | .faddr off x => (match o with | .fieldAddr t X i => (match P.underlying t with | some (.struct fs) => (match fs[i]? with | some f => hasT P f.type && P.cellsOf f.type != 0 && off == f.offset | none => false) | _ => false) && opdOk X x | _ => false)
  | .iaS sz x i => (match o with | .indexAddr t X I => sliceSz P t sz && opdOk X x && opdOk I i | _ => false)
  | .iaA n sz x i => (match o with | .indexAddr t X I => arrayIs P t n sz && opdOk X x && opdOk I i | _ => false)
  | .mks e sz bytes z l c => (match o with
      | .makeSlice t L C => sliceIs P t e sz && zeroIs P e z && z.length == sz && P.bytesOf e == bytes && decide (0 < bytes) && opdOk L l && opdOk C c
      | _ => false)
  | .slc sz x lo hi mx => (match o with | .slice t X Lo Hi Mx => sliceSz P t sz && opdOk X x && opdOptOk Lo lo && opdOptOk Hi hi && opdOptOk Mx mx | _ => false)
  | .slcA n sz x lo hi => (match o with | .slice t X Lo Hi Mx => Mx.isNone && arrayIs P t n sz && opdOk X x && opdOptOk Lo lo && opdOptOk Hi hi | _ => false)
  | .len x => (match o with | .call { callee := .builtin .len, args := as, argTypes := ts } => (match as.toList, ts.toList with | [X], [t] => isSliceT P t && opdOk X x | _, _ => false) | _ => false)
  | .lenA n => (match o with | .call { callee := .builtin .len, args := as, argTypes := ts } => (match as.toList, ts.toList with | [_], [t] => (match P.underlying t with | some (.array len _) => len == n | _ => false) | _, _ => false) | _ => false)
  | .mn x xs => (match o with | .call { callee := .builtin .min, args := as, argTypes := _ } => opdsOk as.toList (x :: xs) | _ => false)
  | .mx x xs => (match o with | .call { callee := .builtin .max, args := as, argTypes := _ } => opdsOk as.toList (x :: xs) | _ => false)
  | .app e sz bytes s x => (match o with
      | .call { callee := .builtin .append, args := as, argTypes := ts } => (match as.toList, ts.toList with
        | [S, X], [t, t'] => t' == t && sliceIs P t e sz && P.bytesOf e == bytes && decide (0 < bytes) && (match P.info? e with | some i => (match i.zero with | some zv => zv.cells.size == sz | none => false) | none => false) && opdOk S s && opdOk X x
        | _, _ => false)
      | _ => false)
  | .appp e sz bytes s x => (match o with
      | .call { callee := .builtin .append, args := as, argTypes := ts } => (match as.toList, ts.toList with
        | [S, X], [t, t'] => t' == t && sliceIs P t e sz && P.bytesOf e == bytes && decide (0 < bytes) && (match P.info? e with | some i => (match i.zero with | some zv => zv.cells.size == sz | none => false) | none => false) && opdOk S s && opdOk X x
        | _, _ => false)
      | _ => false)
  | .call f _ xs => (match o with | .call { callee := .value (.func f'), args := as, argTypes := _ } => f' == f && opdsOk as.toList xs | _ => false)
  | .callv x _ xs => (match o with | .call { callee := .value F, args := as, argTypes := _ } => opdOk F x && opdsOk as.toList xs | _ => false)
  | .inv x name _ xs => (match o with | .call { callee := .invoke R name', args := as, argTypes := _ } => name' == name && opdOk R x && opdsOk as.toList xs | _ => false)
  | .mkm _ => (match o with | .makeMap _ r => r.isNone | _ => false)
  | .mup kn m k v => (match o with | .mapUpdate t M X V => mapIs P t kn && opdOk M m && opdOk X k && opdOk V v | .insert t M X V => mapIs P t kn && opdOk M m && opdOk X k && opdOk V v | _ => false)
  | .mlk kn z cok m k => (match o with | .lookup t M X c => c == cok && mapZ P t kn z && opdOk M m && opdOk X k | _ => false)
  | .mln _ m => (match o with | .call { callee := .builtin .len, args := as, argTypes := ts } => (match as.toList, ts.toList with | [X], [t] => isMapT P t && opdOk X m | _, _ => false) | _ => false)
  | .mpe kn z m k => (match o with | .mapEntry t M X => mapZ P t kn z && opdOk M m && opdOk X k | _ => false)
  | .est _ m s v => (match o with | .entryStore _ M S V => opdOk M m && opdOk S s && opdOk V v | _ => false)
  | .eqp neg x y => (match o with | .binOp op t X Y _ => op == negOp neg && (match P.underlying t with | some (.pointer _) => true | _ => false) && opdOk X x && opdOk Y y | _ => false)
  | .clr sz z x => (match o with
      | .call { callee := .builtin .clear, args := as, argTypes := ts } => (match as.toList, ts.toList with
        | [X], [t] => (match P.underlying t with | some (.slice e) => zeroIs P e z && hasT P e && P.cellsOf e == sz && decide (0 < sz) && opdOk X x | _ => false)
        | _, _ => false)
      | _ => false)
  | .bad => true

/-! ### The operands' values -/
/-- The slots. -/
structure ERel (K : KW) (N : Nat) (env : Env) (a : Act) : Prop where
  size : a.tmps.size = N
  slot : ∀ t, Rep K (get env t) (a.tmps.getD t Go.undef)

theorem ERel.mono {K K' : KW} {N : Nat} {env : Env} {a : Act} (h : ERel K N env a) (hl : K.Le K') : ERel K' N env a := ⟨h.size, fun t => (h.slot t).mono hl⟩
theorem put_defers (a : Act) (d : Option Nat) (v : Value) : (a.put d v).defers = a.defers := by cases d <;> rfl
theorem ERel.put {K : KW} {N : Nat} {env : Env} {a : Act} (h : ERel K N env a) {d : Option Nat} (hd : ∀ x, d = some x → x < N) {v : PV} {rv : Value} (hv : Rep K v rv) : ERel K N (PM.put env d v) (a.put d rv) := by
  cases d with
  | none => exact h
  | some d =>
    refine ⟨by simp [Act.put, h.size], fun t => ?_⟩
    simp only [PM.put, get, Act.put]
    by_cases e : d = t
    · subst e
      have := hd d rfl
      rw [if_pos rfl]
      simp [Array.getElem?_setIfInBounds, h.size, this]
      exact hv
    · rw [if_neg e]
      have := h.slot t
      simp only [Array.getD_eq_getD_getElem?] at this ⊢
      rw [Array.getElem?_setIfInBounds_ne e]
      exact this

section
variable {P : Program} {K : KW} {N : Nat} {env : Env} {a : Act}

theorem opd_rep (h : ERel K N env a) {X : Operand} {x : POpd} (hx : opdOk X x = true) : Rep K (ev env x) (a.eval X) := by
  unfold opdOk at hx
  split at hx
  · simp at hx; subst hx; exact h.slot _
  · exact cvOk_rep K _ _ hx
  · simp at hx; subst hx; exact ⟨_, _, rfl, rfl, rfl⟩
  · cases hx
theorem opds_rep (h : ERel K N env a) : ∀ {Xs : List Operand} {xs : List POpd}, opdsOk Xs xs = true → RepL K (evs env xs) (Xs.map a.eval)
  | [], [], _ => rfl
  | [], _ :: _, hx => by simp [opdsOk] at hx
  | _ :: _, [], hx => by simp [opdsOk] at hx
  | X :: Xs, x :: xs, hx => by
    simp only [opdsOk, Bool.and_eq_true] at hx
    exact ⟨_, _, rfl, opd_rep h hx.1, opds_rep h hx.2⟩
theorem opdOpt_rep (h : ERel K N env a) {X : Option Operand} {x : Option POpd} (hx : opdOptOk X x = true) : OptR K (x.map (ev env)) (X.map a.eval) := by
  cases X <;> cases x <;> simp only [opdOptOk, Bool.false_eq_true] at hx
  · trivial
  · exact opd_rep h hx
theorem parts_rep (h : ERel K N env a) {f : Nat → Option (Nat × Nat)} : ∀ {Xs : List (Nat × Operand)} {xs : List (Nat × Nat × POpd)}, partsEq f Xs xs = true →
    (evps env xs).length = Xs.length ∧ ∀ (j : Nat) (p : Nat × Nat × PV) (q : Nat × Operand), (evps env xs)[j]? = some p → Xs[j]? = some q → f q.1 = some (p.1, p.2.1) ∧ Rep K p.2.2 (a.eval q.2)
  | [], [], _ => ⟨rfl, by simp [evps]⟩
  | [], _ :: _, hx => by simp [partsEq] at hx
  | _ :: _, [], hx => by simp [partsEq] at hx
  | (i, X) :: Xs, (off, size, x) :: xs, hx => by
    simp only [partsEq, Bool.and_eq_true, beq_iff_eq] at hx
    obtain ⟨⟨h1, h2⟩, h3⟩ := hx
    obtain ⟨hl, hr⟩ := parts_rep h h3
    refine ⟨by simpa [evps] using hl, fun j p q hp hq => ?_⟩
    cases j with
    | zero =>
      simp [evps] at hp hq
      subst hp; subst hq
      exact ⟨h1, opd_rep h h2⟩
    | succ j =>
      simp [evps] at hp hq
      exact hr j p q (by simpa [evps] using hp) hq
end
end Go.Proofs.Ytmbknidfkddpfaa.PM
