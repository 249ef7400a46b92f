/- The pure machine, part 4: arithmetic, slices, fields, literals, append. -/
import Derived.Test.YtmbknidfkddpfaaPmThree
set_option linter.unusedVariables false
set_option linter.unusedSimpArgs false
namespace Go.Proofs.Ytmbknidfkddpfaa.PM

/-! ### Numbers -/
def evBin (op : BinOp) (x y : PV) : Option PV :=
  match x, y with
  | .int k a, .int k' b =>
    match op with
    | .shl => if b < 0 then none else some (.int k (k.wrap (a * 2 ^ (min b.toNat k.bits))))
    | .shr => if b < 0 then none else some (.int k (a.fdiv (2 ^ (min b.toNat k.bits))))
    | op => if k = k' then
        match op with
        | .add => some (.int k (k.wrap (a + b)))
        | .sub => some (.int k (k.wrap (a - b)))
        | .mul => some (.int k (k.wrap (a * b)))
        | .quo => if b = 0 then none else some (.int k (k.wrap (a.tdiv b)))
        | .rem => if b = 0 then none else some (.int k (a.tmod b))
        | .and => some (.int k (k.wrap ((BitVec.ofInt k.bits a &&& BitVec.ofInt k.bits b).toNat : Nat)))
        | .or => some (.int k (k.wrap ((BitVec.ofInt k.bits a ||| BitVec.ofInt k.bits b).toNat : Nat)))
        | .xor => some (.int k (k.wrap ((BitVec.ofInt k.bits a ^^^ BitVec.ofInt k.bits b).toNat : Nat)))
        | .andNot => some (.int k (k.wrap ((BitVec.ofInt k.bits a &&& ~~~ BitVec.ofInt k.bits b).toNat : Nat)))
        | .eql => some (.bool (a == b))
        | .neq => some (.bool (a != b))
        | .lss => some (.bool (decide (a < b)))
        | .leq => some (.bool (decide (a ≤ b)))
        | .gtr => some (.bool (decide (a > b)))
        | .geq => some (.bool (decide (a ≥ b)))
        | _ => none
      else none
  | _, _ => none

section
variable {P : Program} {o : Oper} {a : Act} {K : KW} {H : Hp}

theorem ok_bin {op : BinOp} {t yt : TypeId} {X Y : Operand} {x y r : PV} (ho : o.op = .binOp op t X Y yt) (hH : HRel K H) (hx : Rep K x (a.eval X)) (hy : Rep K y (a.eval Y)) (he : evBin op x y = some r) : OpOk P o a K H r H := by
  cases x <;> simp only [evBin, reduceCtorEq] at he
  rename_i k m
  cases y <;> simp only [reduceCtorEq] at he
  rename_i k' n
  have hx' : a.eval X = .int k m := hx
  have hy' : a.eval Y = .int k' n := hy
  by_cases hs : op = .shl ∨ op = .shr
  · rcases hs with rfl | rfl
    all_goals
      simp only at he
      split at he
      case isTrue => cases he
      rename_i hn
      simp only [Option.some.injEq] at he
      subst he
      refine OpOk.of_same (rv := _) ?_ hH rfl
      simp [execOp, ho, hx', hy', eqGuard, binOp, Op.shift, hn]
  · have hns1 : op ≠ .shl := fun e => hs (.inl e)
    have hns2 : op ≠ .shr := fun e => hs (.inr e)
    cases op <;> simp only [ne_eq, not_true_eq_false] at hns1 hns2 <;> simp only [Option.ite_none_right_eq_some, reduceCtorEq, and_false, ite_self] at he
    all_goals
      first
        | (obtain ⟨rfl, he⟩ := he
           first
             | (simp only [Option.some.injEq] at he
                subst he
                refine OpOk.of_same (rv := _) ?_ hH rfl
                simp [execOp, ho, hx', hy', eqGuard, binOp, Op.intArith, Op.intDiv, Op.intBits, Op.intCmp])
             | (simp only [Option.ite_none_left_eq_some, Option.some.injEq] at he
                obtain ⟨hn, rfl⟩ := he
                refine OpOk.of_same (rv := _) ?_ hH rfl
                simp [execOp, ho, hx', hy', eqGuard, binOp, Op.intArith, Op.intDiv, Op.intBits, Op.intCmp, hn]))
        | (exact absurd he (by simp))

def evUn (op : UnOp) (x : PV) : Option PV :=
  match op, x with
  | .not, .bool b => some (.bool (!b))
  | .neg, .int k n => some (.int k (k.wrap (0 - n)))
  | _, _ => none
theorem ok_un {op : UnOp} {t : TypeId} {X : Operand} {x r : PV} (ho : o.op = .unOp op t X) (hH : HRel K H) (hx : Rep K x (a.eval X)) (he : evUn op x = some r) : OpOk P o a K H r H := by
  cases op <;> cases x <;> simp only [evUn, reduceCtorEq, Option.some.injEq] at he
  all_goals
    subst he
    simp only [Rep] at hx
    refine OpOk.of_same (rv := _) ?_ hH rfl
    simp [execOp, ho, hx, Op.unary, Op.intArith]

def evConv (k : IntKind) (x : PV) : Option PV := match x with | .int _ n => some (.int k (k.wrap n)) | _ => none
theorem ok_conv {k : IntKind} {s d : TypeId} {ds : TypeDesc} {X : Operand} {x r : PV} (ho : o.op = .convert s d X) (hs : P.underlying s = some ds) (hd : P.underlying d = some (.int k)) (hH : HRel K H) (hx : Rep K x (a.eval X)) (he : evConv k x = some r) : OpOk P o a K H r H := by
  cases x <;> simp only [evConv, reduceCtorEq, Option.some.injEq] at he
  subst he
  simp only [Rep] at hx
  refine OpOk.of_same (rv := _) ?_ hH rfl
  simp [execOp, ho, hx, convert, run_underlying hs, run_underlying hd, Conv.intToInt]

/-! ### Equality -/
def evEqb (neg : Bool) (x y : PV) : Option PV := match x, y with | .bool a, .bool b => some (.bool (if neg then !(a == b) else a == b)) | _, _ => none
theorem ok_eqb {op : BinOp} {neg : Bool} (hop : op = if neg then .neq else .eql) {t yt : TypeId} (ht : P.underlying t = some .bool) {X Y : Operand} {x y r : PV} (ho : o.op = .binOp op t X Y yt) (hH : HRel K H) (hx : Rep K x (a.eval X)) (hy : Rep K y (a.eval Y)) (he : evEqb neg x y = some r) : OpOk P o a K H r H := by
  cases x <;> simp only [evEqb, reduceCtorEq] at he
  rename_i p
  cases y <;> simp only [reduceCtorEq, Option.some.injEq] at he
  rename_i q
  subst he
  have hx' : a.eval X = .bool p := hx
  have hy' : a.eval Y = .bool q := hy
  refine OpOk.of_same (rv := .bool (if neg then !(p == q) else p == q)) ?_ hH rfl
  have h1 := run_equalIn_bool' (P := P) K.w 9999 t p q ht
  cases neg <;> simp at hop <;> subst hop <;> simp [execOp, ho, hx', hy', eqGuard, binOp, Op.equal, Op.maxDepth, h1]

/-- A slice (x) against nil (y), or the other way. -/
def isNil? : PV → Option Bool
  | .list .nil _ _ => some true
  | .list _ _ (_ :: _) => some false
  | .msl _ _ _ _ (_ + 1) _ => some false
  | _ => none
def evEqNil (neg : Bool) (x y : PV) : Option PV :=
  match x, y with
  | x, .list .nil _ _ => (isNil? x).map fun b => .bool (if neg then !b else b)
  | .list .nil _ _, y => (isNil? y).map fun b => .bool (if neg then !b else b)
  | _, _ => none
theorem isNil?_rep {K : KW} {x : PV} {v : Value} {b : Bool} (hx : Rep K x v) (h : isNil? x = some b) : (b = true ∧ v = .slice none 0 0) ∨ (b = false ∧ ∃ ad n c, v = .slice (some ad) n c) := by
  unfold isNil? at h
  split at h
  · obtain ⟨_, _, aa, n, c, rfl, _, hn, _⟩ := hx
    simp only [nlOk] at hn
    obtain ⟨rfl, rfl, rfl⟩ := hn
    simp at h
    exact .inl ⟨h, rfl⟩
  · obtain ⟨_, _, aa, n, c, rfl, _, _, hr⟩ := hx
    simp at h
    rcases hr with hr | ⟨g, oo, rfl, _⟩
    · cases hr
    · exact .inr ⟨h, _, _, _, rfl⟩
  · obtain ⟨_, hr⟩ := hx
    simp at h
    rcases hr with ⟨h0, _⟩ | ⟨g, n, c, _, rfl, _⟩
    · cases h0
    · exact .inr ⟨h, _, _, _, rfl⟩
  · cases h
theorem run_equalIn_nil_left (d : Nat) {t e : TypeId} (ht : P.underlying t = some (.slice e)) (p q n c : Nat) (b : Option Addr) (w : World) : (Op.equalIn (d + 1) t (.slice none p q) (.slice b n c)).run P w = .ok b.isNone w := by
  simp [Op.equalIn, run_underlying ht]
theorem run_equalIn_nil_right (d : Nat) {t e : TypeId} (ht : P.underlying t = some (.slice e)) (p q n c : Nat) (b : Option Addr) (w : World) : (Op.equalIn (d + 1) t (.slice b n c) (.slice none p q)).run P w = .ok b.isNone w := by
  cases b <;> simp [Op.equalIn, run_underlying ht]
theorem run_eqnil {op : BinOp} {neg : Bool} (hop : op = if neg then .neq else .eql) {t e : TypeId} (ht : P.underlying t = some (.slice e)) (X Y : Operand) (x y : Value) (b : Bool) (w : World)
    (h : (Op.equalIn 10000 t x y).run P w = .ok b w) (hx : ∃ ad n c, x = .slice ad n c) (hy : ∃ ad n c, y = .slice ad n c) :
    (do eqGuard op t X Y x y; binOp op t x y : Sem Value).run P w = .ok (.bool (if neg then !b else b)) w := by
  obtain ⟨a1, n1, c1, rfl⟩ := hx
  obtain ⟨a2, n2, c2, rfl⟩ := hy
  have h1 : (Op.equal t (.slice a1 n1 c1) (.slice a2 n2 c2)).run P w = .ok b w := h
  cases neg
  · simp at hop; subst hop
    simp only [eqGuard, binOp, Sem.run_bind]; simp; rw [h1]; rfl
  · simp at hop; subst hop
    simp only [eqGuard, binOp, Sem.run_bind]; simp; rw [h1]; rfl
theorem ok_eqnil {op : BinOp} {neg : Bool} (hop : op = if neg then .neq else .eql) {t yt e : TypeId} (ht : P.underlying t = some (.slice e)) {X Y : Operand} {x y r : PV} (ho : o.op = .binOp op t X Y yt) (hH : HRel K H) (hx : Rep K x (a.eval X)) (hy : Rep K y (a.eval Y)) (he : evEqNil neg x y = some r) : OpOk P o a K H r H := by
  have key : ∀ (b : Bool), ((a.eval X = .slice none 0 0 ∧ ((b = true ∧ a.eval Y = .slice none 0 0) ∨ (b = false ∧ ∃ ad n c, a.eval Y = .slice (some ad) n c))) ∨ (a.eval Y = .slice none 0 0 ∧ ((b = true ∧ a.eval X = .slice none 0 0) ∨ (b = false ∧ ∃ ad n c, a.eval X = .slice (some ad) n c)))) →
      OpOk P o a K H (.bool (if neg then !b else b)) H := by
    intro b hb
    refine OpOk.of_same (rv := .bool (if neg then !b else b)) ?_ hH rfl
    have fin : ∀ (x y : Value), a.eval X = x → a.eval Y = y → (Op.equalIn 10000 t x y).run P K.w = .ok b K.w → (∃ ad n c, x = .slice ad n c) → (∃ ad n c, y = .slice ad n c) →
        (execOp a.eval o).run P K.w = .ok (.value (.bool (if neg then !b else b))) K.w := by
      intro x y e1 e2 h h1 h2
      have hrun := run_eqnil hop ht X Y x y b K.w h h1 h2
      simp only [execOp, ho, e1, e2, Sem.run_bind] at hrun ⊢
      rw [hrun]
      rfl
    rcases hb with ⟨h1, ⟨rfl, h2⟩ | ⟨rfl, ad, n, c, h2⟩⟩ | ⟨h1, ⟨rfl, h2⟩ | ⟨rfl, ad, n, c, h2⟩⟩
    · exact fin _ _ h1 h2 (run_equalIn_nil_left 9999 ht _ _ _ _ _ _) ⟨_, _, _, rfl⟩ ⟨_, _, _, rfl⟩
    · exact fin _ _ h1 h2 (run_equalIn_nil_left 9999 ht _ _ _ _ _ _) ⟨_, _, _, rfl⟩ ⟨_, _, _, rfl⟩
    · exact fin _ _ h2 h1 (run_equalIn_nil_right 9999 ht _ _ _ _ _ _) ⟨_, _, _, rfl⟩ ⟨_, _, _, rfl⟩
    · exact fin _ _ h2 h1 (run_equalIn_nil_right 9999 ht _ _ _ _ _ _) ⟨_, _, _, rfl⟩ ⟨_, _, _, rfl⟩
  unfold evEqNil at he
  split at he
  · rename_i nl sz xs
    cases hq : isNil? x with
    | none => rw [hq] at he; cases he
    | some b =>
      rw [hq] at he
      simp only [Option.map_some, Option.some.injEq] at he
      subst he
      obtain ⟨_, _, aa, n, c, hY, _, hn, _⟩ := hy
      simp only [nlOk] at hn
      obtain ⟨rfl, rfl, rfl⟩ := hn
      exact key b (.inr ⟨hY, isNil?_rep hx hq⟩)
  · rename_i nl sz xs _
    cases hq : isNil? y with
    | none => rw [hq] at he; cases he
    | some b =>
      rw [hq] at he
      simp only [Option.map_some, Option.some.injEq] at he
      subst he
      obtain ⟨_, _, aa, n, c, hX, _, hn, _⟩ := hx
      simp only [nlOk] at hn
      obtain ⟨rfl, rfl, rfl⟩ := hn
      exact key b (.inl ⟨hX, isNil?_rep hy hq⟩)
  · cases he

/-! ### Nil checks, parts of tuples, interfaces, function values -/
def evNck (x : PV) : Option PV :=
  match x with
  | .pptr .. | .mptr .. | .list .. | .msl .. | .iface .. => some x
  | .clo (.func f) a b => some (.clo (.func f) a b)
  | _ => none
theorem ok_nck {X : Operand} {x r : PV} (ho : o.op = .nilCheck X) (hH : HRel K H) (hx : Rep K x (a.eval X)) (he : evNck x = some r) : OpOk P o a K H r H := by
  unfold evNck at he
  have hx0 := hx
  split at he <;> first | (cases he; done) | skip
  all_goals
    simp only [Option.some.injEq] at he
    subst he
  · obtain ⟨_, _, g, oo, hv, _⟩ := hx
    exact OpOk.of_same (rv := a.eval X) (by simp [execOp, ho, hv]) hH hx0
  · obtain ⟨g, n, _, hv⟩ := hx
    exact OpOk.of_same (rv := a.eval X) (by simp [execOp, ho, hv]) hH hx0
  · obtain ⟨_, _, aa, n, c, hv, _⟩ := hx
    exact OpOk.of_same (rv := a.eval X) (by simp [execOp, ho, hv]) hH hx0
  · rcases hx with ⟨_, ⟨_, ⟨_, hv⟩ | ⟨_, aa, c, hv⟩⟩ | ⟨g, n, c, _, hv, _⟩⟩ <;> exact OpOk.of_same (rv := a.eval X) (by simp [execOp, ho, hv]) hH hx0
  · obtain ⟨y, hv, _⟩ := hx
    exact OpOk.of_same (rv := a.eval X) (by simp [execOp, ho, hv]) hH hx0
  · obtain ⟨f', c', hv, _⟩ := hx
    exact OpOk.of_same (rv := a.eval X) (by simp [execOp, ho, hv]) hH hx0

def evExt (i : Nat) (x : PV) : Option PV := match x with | .tup xs => xs[i]? | _ => none
theorem ok_ext {i : Nat} {X : Operand} {x r : PV} (ho : o.op = .extract X i) (hH : HRel K H) (hx : Rep K x (a.eval X)) (he : evExt i x = some r) : OpOk P o a K H r H := by
  cases x <;> simp only [evExt, reduceCtorEq] at he
  obtain ⟨ys, hv, hr⟩ := hx
  obtain ⟨v, hv', hrv⟩ := hr.get i r he
  refine OpOk.of_same (rv := v) ?_ hH hrv
  have : ys[i]? = some v := by simpa using hv'
  simp [execOp, ho, hv, Instr.extract, this]

theorem ok_mkif {t : TypeId} {d : TypeDesc} {X : Operand} {x : PV} (ho : o.op = .makeInterface t X) (ht : P.underlying t = some d) (hd : (match d with | .interface _ => false | _ => true) = true) (hH : HRel K H) (hx : Rep K x (a.eval X)) : OpOk P o a K H (.iface t x) H := by
  refine OpOk.of_same (rv := .iface t (a.eval X)) ?_ hH ⟨_, rfl, hx⟩
  cases d <;> simp at hd <;> simp [execOp, ho, Instr.makeInterface, run_underlying ht]

theorem RepL.map {ρ : Operand → Value} {fs : List Operand} {ps : List PV} (h : ps.length = fs.length) (hr : ∀ (i : Nat) (X : Operand) (x : PV), fs[i]? = some X → ps[i]? = some x → Rep K x (ρ X)) : RepL K ps (fs.map ρ) :=
  RepL.of (by simpa using h) fun i x v hx hv => by
    rw [List.getElem?_map, Option.map_eq_some_iff] at hv
    obtain ⟨X, hX, rfl⟩ := hv
    exact hr i X x hX hx

theorem ok_mkf {fn : Fn} {fs cs : Array Operand} {pf pc : List PV} (ho : o.op = .makeFunc fn fs cs) (hH : HRel K H) (hf : RepL K pf (fs.toList.map a.eval)) (hc : RepL K pc (cs.toList.map a.eval)) : OpOk P o a K H (.clo fn pf pc) H := by
  refine OpOk.of_same (rv := .func fn (fs.map a.eval) (cs.map a.eval)) ?_ hH ⟨_, _, rfl, by simpa using hf, by simpa using hc⟩
  simp [execOp, ho, Instr.makeFunc]

/-! ### Fields and elements of values -/
def evFld (n : Option Nat) (off : Nat) (x : PV) : Option PV := match x with | .agg xs => cutV n xs off | _ => none

theorem run_part {t : TypeId} (h : hasT P t = true) {xs : List PV} {cs : Array Value} (hr : RepL K xs cs.toList) {n : Option Nat} (hn : n = if isAggT P t then some (P.cellsOf t) else none) {off : Nat} {r : PV} (he : cutV n xs off = some r) :
    ∃ v, (part t cs off).run P K.w = .ok v K.w ∧ Rep K r v := by
  unfold part
  rw [Sem.run_bind, run_isAgg h]
  simp only [Result.andThen_ok]
  by_cases hA : isAggT P t = true
  · rw [hA, if_pos rfl] at hn
    rw [if_pos hA]
    subst hn
    unfold cutV at he
    simp only at he
    split at he
    case isFalse => cases he
    rename_i hle
    simp only [Option.some.injEq] at he
    subst he
    rw [Sem.run_bind, run_sizeOf h]
    simp only [Result.andThen_ok]
    refine ⟨_, rfl, _, rfl, ?_⟩
    have := (hr.drop off).take (P.cellsOf t)
    rw [show (cs.extract off (off + P.cellsOf t)).toList = (cs.toList.drop off).take (P.cellsOf t) by simp [Array.toList_extract, List.extract]]
    exact this
  · rw [if_neg hA] at hn
    rw [if_neg hA]
    subst hn
    obtain ⟨v, hv, hrv⟩ := hr.get off r he
    have : cs[off]? = some v := by simpa using hv
    exact ⟨v, by rw [this]; rfl, hrv⟩

theorem ok_fld {t : TypeId} {fs : Array Field} {f : Field} {i : Nat} {X : Operand} {x r : PV} {n : Option Nat} (ho : o.op = .field t X i) (ht : P.underlying t = some (.struct fs)) (hf : fs[i]? = some f) (hft : hasT P f.type = true)
    (hn : n = if isAggT P f.type then some (P.cellsOf f.type) else none) (hH : HRel K H) (hx : Rep K x (a.eval X)) (he : evFld n f.offset x = some r) : OpOk P o a K H r H := by
  cases x <;> simp only [evFld, reduceCtorEq] at he
  obtain ⟨ys, hv, hr⟩ := hx
  obtain ⟨v, hrun, hrv⟩ := run_part hft hr hn he
  refine OpOk.of_same (rv := v) ?_ hH hrv
  simp [execOp, ho, hv, Instr.field, run_underlying ht, hf, asAgg, hrun]

/-- The index as a place. -/
def ixIn (i : PV) (n : Nat) : Option Nat := match i with | .int _ k => if 0 ≤ k ∧ k < n then some k.toNat else none | _ => none
theorem ixIn_spec {i : PV} {n j : Nat} {v : Value} (hi : Rep K i v) (h : ixIn i n = some j) : ∃ k m, v = .int k m ∧ 0 ≤ m ∧ m < n ∧ m.toNat = j := by
  cases i <;> simp only [ixIn, reduceCtorEq] at h
  rename_i k m
  split at h
  case isFalse => cases h
  rename_i hc
  simp at h
  exact ⟨k, m, hi, hc.1, hc.2, h⟩

def evIxA (n sz : Nat) (m : Option Nat) (x i : PV) : Option PV := match x with | .agg xs => (ixIn i n).bind fun j => cutV m xs (j * sz) | _ => none
theorem ok_ixA {t e : TypeId} {len : Nat} {X I : Operand} {x i r : PV} {m : Option Nat} (ho : o.op = .index t X I) (ht : P.underlying t = some (.array len e)) (het : hasT P e = true) (hm : m = if isAggT P e then some (P.cellsOf e) else none)
    (hH : HRel K H) (hx : Rep K x (a.eval X)) (hi : Rep K i (a.eval I)) (he : evIxA len (P.cellsOf e) m x i = some r) : OpOk P o a K H r H := by
  cases x <;> simp only [evIxA, reduceCtorEq] at he
  rw [Option.bind_eq_some_iff] at he
  obtain ⟨j, hj, he⟩ := he
  obtain ⟨k, mm, hI, h0, h1, rfl⟩ := ixIn_spec hi hj
  obtain ⟨ys, hv, hr⟩ := hx
  obtain ⟨v, hrun, hrv⟩ := run_part het hr hm he
  refine OpOk.of_same (rv := v) ?_ hH hrv
  simp [execOp, ho, hv, hI, Instr.index, asIntOf, run_underlying ht, h0, h1, run_sizeOf het, hrun]

/-! ### Addresses -/
def evFaddr (off : Nat) (x : PV) : Option PV :=
  match x with
  | .pptr bor xs o => if o + off ≤ xs.length then some (.pptr bor xs (o + off)) else none
  | .mptr b gen o => some (.mptr b gen (o + off))
  | _ => none
theorem ok_faddr {t : TypeId} {fs : Array Field} {f : Field} {i : Nat} {X : Operand} {x r : PV} (ho : o.op = .fieldAddr t X i) (ht : P.underlying t = some (.struct fs)) (hf : fs[i]? = some f) (hft : hasT P f.type = true) (hsz : P.cellsOf f.type ≠ 0)
    (hH : HRel K H) (hx : Rep K x (a.eval X)) (he : evFaddr f.offset x = some r) : OpOk P o a K H r H := by
  have hrun : ∀ g oo : Nat, a.eval X = .pointer (some ⟨g, oo, none⟩) → (execOp a.eval o).run P K.w = .ok (.value (.pointer (some ⟨g, oo + f.offset, none⟩))) K.w := by
    intro g oo hv
    have hs := run_sizeOf hft K.w
    simp [execOp, ho, hv, Instr.fieldAt, Instr.sureAddr, run_underlying ht, hf, fieldPlace, hs, hsz, add_plain]
  cases x <;> simp only [evFaddr, reduceCtorEq] at he
  case pptr bor xs off =>
    split at he
    case isFalse => cases he
    rename_i hle
    simp only [Option.some.injEq] at he
    subst he
    obtain ⟨hcl, _, g, oo, hv, hs, hrow⟩ := hx
    exact OpOk.of_same (hrun g (oo + off) hv) hH ⟨hcl, hle, g, oo, by rw [Nat.add_assoc], hs, hrow⟩
  case mptr b gen off =>
    simp only [Option.some.injEq] at he
    subst he
    obtain ⟨g, n, hm, hv⟩ := hx
    exact OpOk.of_same (hrun g off hv) hH ⟨g, n, hm, rfl⟩

def evIaS (sz : Nat) (x i : PV) : Option PV :=
  match x with
  | .list nl s xs => if s = sz then (ixIn i (xs.length / sz)).map fun j => .pptr (nl = .bor) xs (j * sz) else none
  | .msl _ b gen off len s => if s = sz then (ixIn i len).map fun j => .mptr b gen (off + j * sz) else none
  | _ => none
theorem ok_iaS {t e : TypeId} {X I : Operand} {x i r : PV} (ho : o.op = .indexAddr t X I) (ht : P.underlying t = some (.slice e)) (het : hasT P e = true)
    (hH : HRel K H) (hx : Rep K x (a.eval X)) (hi : Rep K i (a.eval I)) (he : evIaS (P.cellsOf e) x i = some r) : OpOk P o a K H r H := by
  cases x <;> simp only [evIaS, reduceCtorEq] at he
  case list nl s xs =>
    split at he
    case isFalse => cases he
    rename_i hs
    subst hs
    rw [Option.map_eq_some_iff] at he
    obtain ⟨j, hj, rfl⟩ := he
    obtain ⟨k, m, hI, h0, h1, rfl⟩ := ixIn_spec hi hj
    obtain ⟨hp, hcl, aa, n, c, hv, hl, hn, hr⟩ := hx
    have hdiv : xs.length / P.cellsOf e = n := by rw [hl]; exact Nat.mul_div_cancel _ hp
    rw [hdiv] at h1
    rcases hr with rfl | ⟨g, oo, rfl, hs, hrow⟩
    · simp at hdiv; subst hdiv; omega
    · refine OpOk.of_same (rv := .pointer (some ⟨g, oo + m.toNat * P.cellsOf e, none⟩)) ?_ hH ⟨?_, ?_, g, oo, rfl, hs, hrow⟩
      · simp [execOp, ho, hv, hI, Instr.indexAt, asIntOf, run_underlying ht, h0, h1, run_sizeOf het, add_plain]
      · by_cases hb : nl = .bor <;> simpa [hb] using hcl
      · rw [hl]
        exact Nat.mul_le_mul_right _ (by omega)
  case msl ap b gen off len s =>
    split at he
    case isFalse => cases he
    rename_i hs
    subst hs
    rw [Option.map_eq_some_iff] at he
    obtain ⟨j, hj, rfl⟩ := he
    obtain ⟨k, m, hI, h0, h1, rfl⟩ := ixIn_spec hi hj
    rcases hx with ⟨_, ⟨rfl, _⟩ | ⟨g, n, c, hm, hv, _⟩⟩
    · omega
    · refine OpOk.of_same (rv := .pointer (some ⟨g, off + m.toNat * P.cellsOf e, none⟩)) ?_ hH ⟨g, n, hm, rfl⟩
      simp [execOp, ho, hv, hI, Instr.indexAt, asIntOf, run_underlying ht, h0, h1, run_sizeOf het, add_plain]

def evIaA (n sz : Nat) (x i : PV) : Option PV :=
  (ixIn i n).bind fun j => evFaddr (j * sz) x
theorem ok_iaA {t e : TypeId} {len : Nat} {X I : Operand} {x i r : PV} (ho : o.op = .indexAddr t X I) (ht : P.underlying t = some (.array len e)) (het : hasT P e = true)
    (hH : HRel K H) (hx : Rep K x (a.eval X)) (hi : Rep K i (a.eval I)) (he : evIaA len (P.cellsOf e) x i = some r) : OpOk P o a K H r H := by
  unfold evIaA at he
  rw [Option.bind_eq_some_iff] at he
  obtain ⟨j, hj, he⟩ := he
  obtain ⟨k, m, hI, h0, h1, rfl⟩ := ixIn_spec hi hj
  have hrun : ∀ g oo : Nat, a.eval X = .pointer (some ⟨g, oo, none⟩) → (execOp a.eval o).run P K.w = .ok (.value (.pointer (some ⟨g, oo + m.toNat * P.cellsOf e, none⟩))) K.w := by
    intro g oo hv
    have hs := run_sizeOf het K.w
    simp [execOp, ho, hv, hI, Instr.indexAt, Instr.sureAddr, asIntOf, run_underlying ht, h0, h1, hs, add_plain]
  cases x <;> simp only [evFaddr, reduceCtorEq] at he
  case pptr bor xs off =>
    split at he
    case isFalse => cases he
    rename_i hle
    simp only [Option.some.injEq] at he
    subst he
    obtain ⟨hcl, _, g, oo, hv, hs, hrow⟩ := hx
    exact OpOk.of_same (hrun g (oo + off) hv) hH ⟨hcl, hle, g, oo, by rw [Nat.add_assoc], hs, hrow⟩
  case mptr b gen off =>
    simp only [Option.some.injEq] at he
    subst he
    obtain ⟨g, n, hm, hv⟩ := hx
    exact OpOk.of_same (hrun g off hv) hH ⟨g, n, hm, rfl⟩

/-! ### Lengths -/
def evLen (x : PV) : Option PV :=
  match x with
  | .list _ sz xs => some (.int .i64 (xs.length / sz : Nat))
  | .msl _ _ _ _ len _ => some (.int .i64 len)
  | _ => none
theorem ok_len {t e : TypeId} {X : Operand} {x r : PV} (ho : o.op = .call { callee := .builtin .len, args := #[X], argTypes := #[t] }) (ht : P.underlying t = some (.slice e)) (hH : HRel K H) (hx : Rep K x (a.eval X)) (he : evLen x = some r) : OpOk P o a K H r H := by
  cases x <;> simp only [evLen, reduceCtorEq, Option.some.injEq] at he
  · subst he
    obtain ⟨hp, _, aa, n, c, hv, hl, _⟩ := hx
    refine OpOk.of_same (rv := .int .i64 n) ?_ hH (by rw [hl, Nat.mul_div_cancel _ hp]; rfl)
    simp [execOp, ho, hv, resolve, invoke, builtin, Builtin.len_, run_underlying ht, goInt]
  · subst he
    rename_i ap b gen off len sz
    refine OpOk.of_same (rv := .int .i64 len) ?_ hH rfl
    rcases hx with ⟨_, ⟨rfl, ⟨_, hv⟩ | ⟨_, aa, c, hv⟩⟩ | ⟨g, n, c, _, hv, _⟩⟩ <;> simp [execOp, ho, hv, resolve, invoke, builtin, Builtin.len_, run_underlying ht, goInt]
theorem ok_lenA {t e : TypeId} {n : Nat} {X : Operand} (ho : o.op = .call { callee := .builtin .len, args := #[X], argTypes := #[t] }) (ht : P.underlying t = some (.array n e)) (hH : HRel K H) : OpOk P o a K H (.int .i64 n) H := by
  refine OpOk.of_same (rv := .int .i64 n) ?_ hH rfl
  simp [execOp, ho, resolve, invoke, builtin, Builtin.len_, run_underlying ht, goInt]

def evMin (x : PV) : List PV → Option PV
  | [] => some x
  | y :: ys => match x, y with | .int k a, .int _ b => evMin (.int k (if b < a then b else a)) ys | _, _ => none
def evMax (x : PV) : List PV → Option PV
  | [] => some x
  | y :: ys => match x, y with | .int k a, .int _ b => evMax (.int k (if a < b then b else a)) ys | _, _ => none
theorem run_evMin : ∀ (ys : List PV) (x r : PV) (v : Value) (l : List Value), Rep K x v → RepL K ys l → evMin x ys = some r → (∃ k n, x = .int k n) → ∃ rv, (l.foldlM Builtin.min2 v).run P K.w = .ok rv K.w ∧ Rep K r rv
  | [], x, r, v, l, hx, hl, he, _ => by
    rw [show l = [] from hl]
    simp only [evMin, Option.some.injEq] at he
    subst he
    exact ⟨v, rfl, hx⟩
  | y :: ys, x, r, v, l, hx, hl, he, ⟨k, n, e⟩ => by
    subst e
    obtain ⟨u, us, rfl, hu, hus⟩ := hl
    cases y <;> simp only [evMin, reduceCtorEq] at he
    rename_i k' m
    have hv : v = .int k n := hx
    have hu' : u = .int k' m := hu
    subst hv; subst hu'
    simp only [List.foldlM_cons, Builtin.min2, Sem.run_bind, Sem.run_pure, Result.andThen_ok]
    exact run_evMin ys (.int k (if m < n then m else n)) r _ us rfl hus he ⟨_, _, rfl⟩
theorem ok_min {ts : Array TypeId} {Xs : Array Operand} {x r : PV} {xs : List PV} (ho : o.op = .call { callee := .builtin .min, args := Xs, argTypes := ts }) (hH : HRel K H) (hx : RepL K (x :: xs) (Xs.toList.map a.eval)) (hi : ∃ k n, x = .int k n) (he : evMin x xs = some r) : OpOk P o a K H r H := by
  obtain ⟨v, l, hv, h1, h2⟩ := hx
  obtain ⟨rv, hrun, hr⟩ := run_evMin (P := P) xs x r v l h1 h2 he hi
  refine OpOk.of_same (rv := rv) ?_ hH hr
  simp [execOp, ho, resolve, invoke, builtin, Builtin.min_, hv, hrun]
theorem run_max2_int (k k' : IntKind) (n m : Int) (w : World) : (Builtin.max2 (.int k n) (.int k' m)).run P w = .ok (.int k (if n < m then m else n)) w := by
  simp [Builtin.max2]
theorem run_evMax : ∀ (ys : List PV) (x r : PV) (v : Value) (l : List Value), Rep K x v → RepL K ys l → evMax x ys = some r → (∃ k n, x = .int k n) → ∃ rv, (l.foldlM Builtin.max2 v).run P K.w = .ok rv K.w ∧ Rep K r rv
  | [], x, r, v, l, hx, hl, he, _ => by
    rw [show l = [] from hl]
    simp only [evMax, Option.some.injEq] at he
    subst he
    exact ⟨v, rfl, hx⟩
  | y :: ys, x, r, v, l, hx, hl, he, ⟨k, n, e⟩ => by
    subst e
    obtain ⟨u, us, rfl, hu, hus⟩ := hl
    cases y <;> simp only [evMax, reduceCtorEq] at he
    rename_i k' m
    have hv : v = .int k n := hx
    have hu' : u = .int k' m := hu
    subst hv; subst hu'
    simp only [List.foldlM_cons, Sem.run_bind, run_max2_int, Result.andThen_ok]
    exact run_evMax ys (.int k (if n < m then m else n)) r _ us rfl hus he ⟨_, _, rfl⟩
theorem ok_max {ts : Array TypeId} {Xs : Array Operand} {x r : PV} {xs : List PV} (ho : o.op = .call { callee := .builtin .max, args := Xs, argTypes := ts }) (hH : HRel K H) (hx : RepL K (x :: xs) (Xs.toList.map a.eval)) (hi : ∃ k n, x = .int k n) (he : evMax x xs = some r) : OpOk P o a K H r H := by
  obtain ⟨v, l, hv, h1, h2⟩ := hx
  obtain ⟨rv, hrun, hr⟩ := run_evMax (P := P) xs x r v l h1 h2 he hi
  refine OpOk.of_same (rv := rv) ?_ hH hr
  simp [execOp, ho, resolve, invoke, builtin, Builtin.max_, hv, hrun]
end
end Go.Proofs.Ytmbknidfkddpfaa.PM
