/- The pure machine, part 15: lists of values of a type; what operations tell of symbolic values. -/
import Derived.Test.YtmbknidfkddpfaaPmFourteen
set_option linter.unusedVariables false
set_option linter.unusedSimpArgs false
namespace Go.Proofs.Ytmbknidfkddpfaa.PM

/-- A type whose values lie in a row of cells. -/
class Enc (α : Type) where
  sz : Nat
  enc : α → List PV
  dec : List PV → Option α
  cln : α → Bool
  /-- No cell names a block. -/
  ph : Bool := true
  pos : 0 < sz
  len : ∀ x, (enc x).length = sz
  one : ∀ x, (enc x).all PV.one = true
  pur : ∀ x, (!ph || PV.pureLB (enc x)) = true
  hcln : ∀ x, PV.cleanLB (enc x) = cln x
  dec_enc : ∀ x, dec (enc x) = some x
  enc_dec : ∀ l x, dec l = some x → enc x = l

section
variable {α : Type} [Enc α]
open Enc

/-- The cells of a list. -/
def cl (xs : List α) : List PV := xs.flatMap enc
@[simp] theorem cl_nil : cl ([] : List α) = [] := rfl
theorem cl_cons (x : α) (xs : List α) : cl (x :: xs) = enc x ++ cl xs := rfl
theorem cl_append (xs ys : List α) : cl (xs ++ ys) = cl xs ++ cl ys := by simp [cl]
@[simp] theorem length_cl : ∀ xs : List α, (cl xs).length = xs.length * sz α
  | [] => by simp
  | x :: xs => by rw [cl_cons, List.length_append, len, length_cl xs, List.length_cons, Nat.succ_mul, Nat.add_comm]
theorem drop_cl : ∀ (xs : List α) (j : Nat), (cl xs).drop (j * sz α) = cl (xs.drop j)
  | [], j => by simp
  | x :: xs, 0 => by simp
  | x :: xs, j + 1 => by
    rw [cl_cons, List.drop_succ_cons, ← drop_cl xs j, Nat.succ_mul, Nat.add_comm, ← List.drop_drop]
    congr 1
    rw [List.drop_append_of_le_length (by rw [len]; exact Nat.le_refl _), ← len x, List.drop_length, List.nil_append]
theorem take_cl : ∀ (xs : List α) (j : Nat), (cl xs).take (j * sz α) = cl (xs.take j)
  | [], j => by simp
  | x :: xs, 0 => by simp
  | x :: xs, j + 1 => by
    rw [cl_cons, List.take_succ_cons, cl_cons, ← take_cl xs j, Nat.succ_mul, Nat.add_comm, List.take_append, len]
    congr 1
    · rw [List.take_of_length_le]; rw [len]; omega
    · congr 1; omega
theorem one_cl : ∀ xs : List α, (cl xs).all PV.one = true
  | [] => rfl
  | x :: xs => by rw [cl_cons, List.all_append, one, one_cl xs]; rfl
theorem pureLB_append (xs ys : List PV) : PV.pureLB (xs ++ ys) = (PV.pureLB xs && PV.pureLB ys) := by
  induction xs with
  | nil => simp [PV.pureLB]
  | cons x xs ih => simp [PV.pureLB, ih, Bool.and_assoc]
theorem cleanLB_append (xs ys : List PV) : PV.cleanLB (xs ++ ys) = (PV.cleanLB xs && PV.cleanLB ys) := by
  induction xs with
  | nil => simp [PV.cleanLB]
  | cons x xs ih => simp [PV.cleanLB, ih, Bool.and_assoc]
theorem pure_cl (h : ph α = true) : ∀ xs : List α, PV.pureLB (cl xs) = true
  | [] => rfl
  | x :: xs => by
    have := pur x
    rw [h] at this
    rw [cl_cons, pureLB_append, show PV.pureLB (enc x) = true by simpa using this, pure_cl h xs]; rfl
@[simp] theorem clean_cl : ∀ xs : List α, PV.cleanLB (cl xs) = xs.all cln
  | [] => rfl
  | x :: xs => by rw [cl_cons, cleanLB_append, hcln, clean_cl xs]; rfl
theorem enc_getElem? {xs : List α} {j : Nat} {x : α} (h : xs[j]? = some x) : cl xs = cl (xs.take j) ++ (enc x ++ cl (xs.drop (j + 1))) := by
  obtain ⟨hj, hx⟩ := List.getElem?_eq_some_iff.1 h
  rw [← cl_cons, ← cl_append]
  congr 1
  rw [← hx, ← List.drop_eq_getElem_cons hj, List.take_append_drop]
theorem enc_inj {x y : α} (h : enc x = enc y) : x = y := by
  have := congrArg (dec (α := α)) h
  rw [dec_enc, dec_enc] at this
  exact Option.some.inj this

/-- A slice that nobody writes. -/
def lst (nl : Nl) (xs : List α) : PV := .list nl (sz α) (cl xs)
/-- A place within an element of such a slice. -/
def ept (b : Bool) (xs : List α) (j off : Nat) : PV := .pptr b (cl xs) (j * sz α + off)
/-- A slice of block b, from its start. -/
def mls (α : Type) [Enc α] (b gen len : Nat) : PV := .msl true b gen 0 len (sz α)
/-- A place within an element of a block. -/
def mep (α : Type) [Enc α] (b gen j off : Nat) : PV := .mptr b gen (j * sz α + off)
/-- A block. -/
abbrev bk (e gen : Nat) (xs : List α) : Blk := ⟨e, gen, cl xs, none⟩
end

section
variable {α : Type} [Enc α] {nl : Nl} {xs : List α} {H : Hp}
open Enc

/-! ### How operations stand -/
section
variable {T : Table} {k : List Fr} {e : Env} {h : Hp} {Q : Post} {cp : Nat → List PV → Option PV} {co : Nat → List PV → Hp → Option (PV × Hp)} {fz : Hp → List PV → Option (List PV)} {meth : Nat → String → Option Nat}
@[simp] theorem G_op {d : Option Nat} {op : POp} {rs : List ROp} {live : List Nat} : G T (.ops (⟨d, none, op⟩ :: rs) live :: k) .normal e h Q =
    if isE op = true then G T (.gotE (evE (RO T) T.meth e h op) d rs live :: k) .normal e h Q else G T (.got (evR (R T) fzB T.meth e h op) d rs live :: k) .normal e h Q := by
  cases hE : isE op
  · rw [G_ops hE]; simp
  · rw [G_opsE hE]; simp
end
attribute [-simp] G_ops G_opsE
attribute [simp] isE evR evE

attribute [simp] List.getElem?_cons_zero List.getElem?_cons_succ

/-! ### Numbers -/
@[simp] theorem wrap_i64 {a : Int} (h1 : -9223372036854775808 ≤ a) (h2 : a ≤ 9223372036854775807) : IntKind.wrap .i64 a = a := by
  simp only [IntKind.wrap, IntKind.bits, IntKind.signed]
  simp
  omega
@[simp] theorem evBin_add (k : IntKind) (a b : Int) : evBin .add (.int k a) (.int k b) = some (.int k (k.wrap (a + b))) := by simp [evBin]
@[simp] theorem evBin_sub (k : IntKind) (a b : Int) : evBin .sub (.int k a) (.int k b) = some (.int k (k.wrap (a - b))) := by simp [evBin]
@[simp] theorem evBin_mul (k : IntKind) (a b : Int) : evBin .mul (.int k a) (.int k b) = some (.int k (k.wrap (a * b))) := by simp [evBin]
@[simp] theorem evBin_quo (k : IntKind) (a b : Int) : evBin .quo (.int k a) (.int k b) = if b = 0 then none else some (.int k (k.wrap (a.tdiv b))) := by simp [evBin]
@[simp] theorem evBin_rem (k : IntKind) (a b : Int) : evBin .rem (.int k a) (.int k b) = if b = 0 then none else some (.int k (a.tmod b)) := by simp [evBin]
@[simp] theorem evBin_eql (k : IntKind) (a b : Int) : evBin .eql (.int k a) (.int k b) = some (.bool (decide (a = b))) := by simp only [evBin, if_true]; rw [show (a == b) = decide (a = b) from rfl]
@[simp] theorem evBin_neq (k : IntKind) (a b : Int) : evBin .neq (.int k a) (.int k b) = some (.bool (!decide (a = b))) := by simp only [evBin, if_true]; rfl
@[simp] theorem evBin_lss (k : IntKind) (a b : Int) : evBin .lss (.int k a) (.int k b) = some (.bool (decide (a < b))) := by simp [evBin]
@[simp] theorem evBin_leq (k : IntKind) (a b : Int) : evBin .leq (.int k a) (.int k b) = some (.bool (decide (a ≤ b))) := by simp [evBin]
@[simp] theorem evBin_gtr (k : IntKind) (a b : Int) : evBin .gtr (.int k a) (.int k b) = some (.bool (decide (b < a))) := by simp [evBin]
@[simp] theorem evBin_geq (k : IntKind) (a b : Int) : evBin .geq (.int k a) (.int k b) = some (.bool (decide (b ≤ a))) := by simp [evBin]
@[simp] theorem evBin_shr (k k' : IntKind) (a b : Int) : evBin .shr (.int k a) (.int k' b) = if b < 0 then none else some (.int k (a.fdiv (2 ^ (min b.toNat k.bits)))) := by simp [evBin]
@[simp] theorem evBin_shl (k k' : IntKind) (a b : Int) : evBin .shl (.int k a) (.int k' b) = if b < 0 then none else some (.int k (k.wrap (a * 2 ^ (min b.toNat k.bits)))) := by simp [evBin]
@[simp] theorem evUn_not (b : Bool) : evUn .not (.bool b) = some (.bool (!b)) := rfl
@[simp] theorem evUn_neg (k : IntKind) (a : Int) : evUn .neg (.int k a) = some (.int k (k.wrap (0 - a))) := rfl
@[simp] theorem evConv_int (k k' : IntKind) (a : Int) : evConv k (.int k' a) = some (.int k (k.wrap a)) := rfl
@[simp] theorem evPick_bool (t : Bool) (a b : PV) : evPick (.bool t) a b = some (if t then a else b) := rfl
@[simp] theorem evEqb_bool (ng a b : Bool) : evEqb ng (.bool a) (.bool b) = some (.bool (if ng then !(a == b) else a == b)) := rfl
@[simp] theorem evExt_tup (i : Nat) (xs : List PV) : evExt i (.tup xs) = xs[i]? := rfl
@[simp] theorem isIntV_int (k : IntKind) (a : Int) : isIntV (.int k a) = true := rfl
@[simp] theorem evMin_nil (x : PV) : evMin x [] = some x := by rw [evMin]
@[simp] theorem evMin_cons (k k' : IntKind) (a b : Int) (ys : List PV) : evMin (.int k a) (.int k' b :: ys) = evMin (.int k (if b < a then b else a)) ys := by rw [evMin]
@[simp] theorem evMax_nil (x : PV) : evMax x [] = some x := by rw [evMax]
@[simp] theorem evMax_cons (k k' : IntKind) (a b : Int) (ys : List PV) : evMax (.int k a) (.int k' b :: ys) = evMax (.int k (if a < b then b else a)) ys := by rw [evMax]
theorem tdiv_nn {a b : Int} (h : 0 ≤ a) : a.tdiv b = a / b := Int.tdiv_eq_ediv_of_nonneg h
theorem tmod_nn {a b : Int} (h : 0 ≤ a) : a.tmod b = a % b := Int.tmod_eq_emod_of_nonneg h
theorem dlt_t {a b : Int} (h : a < b) : decide (a < b) = true := decide_eq_true h
theorem dlt_f {a b : Int} (h : b ≤ a) : decide (a < b) = false := decide_eq_false (by omega)
theorem dle_t {a b : Int} (h : a ≤ b) : decide (a ≤ b) = true := decide_eq_true h
theorem dle_f {a b : Int} (h : b < a) : decide (a ≤ b) = false := decide_eq_false (by omega)
theorem deq_t {a b : Int} (h : a = b) : (a == b) = true := by simp [h]
theorem deq_f {a b : Int} (h : a ≠ b) : (a == b) = false := by simp [h]
theorem dne_t {a b : Int} (h : a ≠ b) : (a != b) = true := by simp [h]
theorem dne_f {a b : Int} (h : a = b) : (a != b) = false := by simp [h]
theorem dne_d {a b : Int} (h : a ≠ b) : decide (a = b) = false := decide_eq_false h

/-! ### Places -/
@[simp] theorem cutV_none (xs : List PV) (off : Nat) : cutV none xs off = xs[off]? := rfl
@[simp] theorem cutV_some (k : Nat) (xs : List PV) (off : Nat) : cutV (some k) xs off = if off + k ≤ xs.length then some (.agg ((xs.drop off).take k)) else none := rfl
@[simp] theorem evLd_pptr (n : Option Nat) (b : Bool) (xs : List PV) (off : Nat) : evLd n (.pptr b xs off) H = cutV n xs off := rfl
@[simp] theorem evLd_mptr (n : Option Nat) (b gen off : Nat) : evLd n (.mptr b gen off) H = (H[b]?).bind fun B => if B.gen = gen then cutV n B.xs off else none := by
  simp only [evLd]; cases H[b]? <;> rfl
@[simp] theorem evSt_mptr (n b gen off : Nat) (v : PV) : evSt n (.mptr b gen off) v H = (H[b]?).bind fun B => if B.gen = gen ∧ v.cells.length = n ∧ 0 < n ∧ off + n ≤ B.xs.length ∧ v.cells.all PV.one = true then some (H.set b ⟨B.e, B.gen, setCells B.xs off v.cells, none⟩) else none := by
  simp only [evSt]; cases H[b]? <;> rfl
@[simp] theorem evFaddr_pptr (off : Nat) (b : Bool) (xs : List PV) (o : Nat) : evFaddr off (.pptr b xs o) = if o + off ≤ xs.length then some (.pptr b xs (o + off)) else none := rfl
@[simp] theorem evFaddr_mptr (off b gen o : Nat) : evFaddr off (.mptr b gen o) = some (.mptr b gen (o + off)) := rfl
@[simp] theorem evFaddr_mep (off b gen j o : Nat) : evFaddr off (mep α b gen j o) = some (mep α b gen j (o + off)) := by
  simp [mep, evFaddr, Nat.add_assoc]
theorem ept_le {xs : List α} {j o : Nat} (hj : j < xs.length) (ho : o ≤ sz α) : j * sz α + o ≤ xs.length * sz α := by
  have : (j + 1) * sz α ≤ xs.length * sz α := Nat.mul_le_mul_right _ hj
  rw [Nat.succ_mul] at this
  omega
/-- (a name of its own: else the rule would go round) -/
def evFaddrRaw := evFaddr
@[simp] theorem evFaddr_ept {off : Nat} {b : Bool} {j o : Nat} (hj : j < xs.length) : evFaddr off (ept b xs j o) = if o + off ≤ sz α then some (ept b xs j (o + off)) else evFaddrRaw off (ept b xs j o) := by
  split
  · rename_i ho
    have := ept_le hj ho
    simp only [ept, evFaddr, length_cl, Nat.add_assoc]
    rw [if_pos (by omega)]
  · rfl
theorem cut_row {n : Option Nat} {j o : Nat} {x : α} (hx : xs[j]? = some x) (ho : o + n.getD 1 ≤ sz α) : cutV n (cl xs) (j * sz α + o) = cutV n (enc x) o := by
  have hj := (List.getElem?_eq_some_iff.1 hx).1
  have hc := enc_getElem? hx
  have hl : (cl (xs.take j)).length = j * sz α := by rw [length_cl, List.length_take, Nat.min_eq_left (by omega)]
  cases n with
  | none =>
    simp only [Option.getD_none] at ho
    simp only [cutV]
    rw [hc, List.getElem?_append_right (by omega), hl, Nat.add_sub_cancel_left, List.getElem?_append_left (by rw [len]; omega)]
  | some n =>
    simp only [Option.getD_some] at ho
    simp only [cutV]
    have := ept_le hj ho
    rw [length_cl, len, if_pos (by omega), if_pos (by omega)]
    congr 2
    rw [hc, ← hl, ← List.drop_drop, List.drop_left, List.drop_append_of_le_length (by rw [len]; omega), List.take_append_of_le_length (by rw [List.length_drop, len]; omega)]
def evLdRaw := evLd
@[simp] theorem evLd_ept {n : Option Nat} {b : Bool} {j o : Nat} (hj : j < xs.length) : evLd n (ept b xs j o) H = if o + n.getD 1 ≤ sz α then cutV n (enc xs[j]) o else evLdRaw n (ept b xs j o) H := by
  split
  · rename_i ho
    simp only [ept, evLd]
    rw [cut_row (List.getElem?_eq_getElem hj) ho]
  · rfl
theorem evLd_mep {n : Option Nat} {b gen j o e : Nat} (hb : H[b]? = some (bk e gen xs)) (ho : o + n.getD 1 ≤ sz α) (hj : j < xs.length) : evLd n (mep α b gen j o) H = cutV n (enc xs[j]) o := by
  simp only [mep, evLd, hb, if_true]
  rw [cut_row (List.getElem?_eq_getElem hj) ho]
theorem setCells_app (p s : List PV) : ∀ (ys q : List PV) (o : Nat), o + ys.length ≤ q.length → setCells (p ++ (q ++ s)) (p.length + o) ys = p ++ (setCells q o ys ++ s)
  | [], q, o, _ => rfl
  | y :: ys, q, o, h => by
    simp only [List.length_cons] at h
    simp only [setCells]
    rw [List.set_append_right _ _ (by omega), Nat.add_sub_cancel_left, List.set_append_left _ _ (by omega), Nat.add_assoc, setCells_app p s ys _ _ (by rw [List.length_set]; omega)]
theorem evSt_mep {n b gen j o e : Nat} {v : PV} {x x' : α} (hb : H[b]? = some (bk e gen xs)) (hx : xs[j]? = some x) (hn : v.cells.length = n) (h0 : 0 < n) (ho : o + n ≤ sz α) (h1 : v.cells.all PV.one = true) (hd : dec (setCells (enc x) o v.cells) = some x') :
    evSt n (mep α b gen j o) v H = some (H.set b (bk e gen (xs.set j x'))) := by
  have hj := (List.getElem?_eq_some_iff.1 hx).1
  have := ept_le hj ho
  simp only [mep, evSt, hb]
  rw [if_pos ⟨trivial, hn, h0, by rw [length_cl]; omega, h1⟩]
  congr 2
  have hc := enc_getElem? hx
  have hl : (cl (xs.take j)).length = j * sz α := by rw [length_cl, List.length_take, Nat.min_eq_left (by omega)]
  have h2 : enc x' = setCells (enc x) o v.cells := enc_dec _ _ hd
  simp only [bk]
  congr 1
  rw [hc, ← hl, setCells_app _ _ _ _ _ (by rw [len, hn]; omega), ← h2]
  have hx' : (xs.set j x')[j]? = some x' := by simp [hj]
  rw [enc_getElem? hx', List.take_set_of_le (Nat.le_refl _), List.drop_set_of_lt (by omega)]

/-! ### Slices -/
@[simp] theorem evLen_lst : evLen (lst nl xs) = some (.int .i64 xs.length) := by
  simp only [lst, evLen, length_cl, Nat.mul_div_cancel _ (pos (α := α))]
@[simp] theorem evLen_list (s : Nat) (ys : List PV) : evLen (.list nl s ys) = some (.int .i64 (ys.length / s : Nat)) := rfl
@[simp] theorem evLen_mls (b gen len : Nat) : evLen (mls α b gen len) = some (.int .i64 len) := rfl
theorem ixIn_ok {k : IntKind} {i : Int} {n : Nat} (h0 : 0 ≤ i) (h1 : i < n) : ixIn (.int k i) n = some i.toNat := by
  simp only [ixIn]; rw [if_pos ⟨h0, h1⟩]
@[simp] theorem evIaS_lst {s : Nat} {k : IntKind} {i : Int} (h0 : 0 ≤ i) (h1 : i < xs.length) : evIaS s (lst nl xs) (.int k i) = if s = sz α then some (ept (nl = .bor) xs i.toNat 0) else none := by
  simp only [lst, evIaS, length_cl]
  by_cases hs : s = sz α
  · subst hs
    rw [Nat.mul_div_cancel _ (pos (α := α)), ixIn_ok h0 h1]
    simp [ept]
  · rw [if_neg fun q => hs q.symm, if_neg hs]
@[simp] theorem evIaS_mls {s b gen len : Nat} {k : IntKind} {i : Int} (h0 : 0 ≤ i) (h1 : i < len) : evIaS s (mls α b gen len) (.int k i) = if s = sz α then some (mep α b gen i.toNat 0) else none := by
  simp only [mls, evIaS]
  by_cases hs : s = sz α
  · subst hs
    rw [ixIn_ok h0 h1]
    simp [mep]
  · rw [if_neg fun q => hs q.symm, if_neg hs]
theorem rep_eq {z : List PV} {x : α} (hz : z = enc x) (n : Nat) : rep n z = cl (List.replicate n x) := by
  subst hz
  apply List.ext_getElem?
  intro i
  have hl : (rep n (enc x)).length = n * sz α := by simp [rep, len]
  have hl' : (cl (List.replicate n x)).length = n * sz α := by simp
  by_cases hi : i < n * sz α
  · have h0 := pos (α := α)
    have hd : i / sz α < n := by rw [Nat.div_lt_iff_lt_mul h0]; exact hi
    have hm := Nat.mod_lt i h0
    have h1 : cutV none (cl (List.replicate n x)) (i / sz α * sz α + i % sz α) = cutV none (enc x) (i % sz α) := cut_row (n := none) (by simp [hd]) (by simp; omega)
    simp only [cutV, Nat.mul_comm (i / sz α), Nat.div_add_mod] at h1
    rw [h1]
    simp only [rep, len, List.getElem?_map, List.getElem?_range hi, Option.map_some]
    rw [List.getD_eq_getElem?_getD, List.getElem?_eq_getElem (by rw [len]; exact hm)]
    simp
  · rw [List.getElem?_eq_none (by omega), List.getElem?_eq_none (by omega)]
theorem evMks_eq {e s bytes : Nat} {z : List PV} {k k' : IntKind} {l c : Int} {x : α} (hz : z = enc x) (hs : s = sz α) (h0 : 0 ≤ l) (h1 : l ≤ c) (h2 : (bytes : Int) * c ≤ 281474976710656) :
    evMks e s bytes z (.int k l) (.int k' c) H = some (mls α H.length 0 l.toNat, H ++ [bk e 0 (List.replicate l.toNat x)]) := by
  subst hs
  simp only [evMks, mls]
  rw [if_pos ⟨h0, h1, h2, by rw [hz]; exact one x⟩, rep_eq hz]
@[simp] theorem srcOf_lst (s : Nat) : srcOf (lst nl xs) s H = if s = sz α then some (cl xs) else none := by
  simp only [lst, srcOf, eq_comm]
theorem srcOf_mls {s b gen e n : Nat} (hb : H[b]? = some (bk e gen xs)) (hn : n = xs.length) (hs : s = sz α) : srcOf (mls α b gen n) s H = some (cl xs) := by
  subst hn; subst hs
  simp only [mls, srcOf, hb, if_true]
  split
  · rename_i h0
    rw [List.length_eq_zero_iff.1 h0]; rfl
  · rw [if_pos ⟨trivial, by simp⟩]
    simp only [List.drop_zero]
    rw [← length_cl, List.take_length]
theorem cl_eq_nil {xs : List α} : cl xs = [] ↔ xs = [] := by
  rw [← List.length_eq_zero_iff, length_cl, ← List.length_eq_zero_iff (l := xs)]
  have := pos (α := α)
  simp only [Nat.mul_eq_zero]
  omega
/-- Append to a slice of a block of one's own. -/
theorem evApp_mls {e s bytes b gen n : Nat} {x : PV} {ys : List α} (hs : s = sz α) (hx : srcOf x s H = some (cl ys)) (hy : ys ≠ []) (hb : H[b]? = some (bk e gen xs)) (hn : n = xs.length) (hsz : (n + ys.length) * bytes ≤ 140737488355328) :
    evApp e s bytes (mls α b gen n) x H = some (mls α b (gen + 1) (n + ys.length), H.set b (bk e (gen + 1) (xs ++ ys))) := by
  subst hs; subst hn
  have h0 : cl ys ≠ [] := fun q => hy (cl_eq_nil.1 q)
  simp only [evApp, hx, Option.bind_some, if_neg h0, mls, length_cl, Nat.mul_div_cancel _ (pos (α := α)), hb]
  rw [if_pos ⟨trivial, hsz⟩, if_pos ⟨trivial, trivial, trivial, Nat.le_refl _⟩, take_cl, List.take_length, ← cl_append]
/-- Append to nil, or to a literal. -/
theorem evApp_lst {e s bytes : Nat} {x : PV} {ys : List α} (hs : s = sz α) (hnl : nl = .nil ∨ nl = .ex) (hx : srcOf x s H = some (cl ys)) (hy : ys ≠ []) (hsz : (xs.length + ys.length) * bytes ≤ 140737488355328) :
    evApp e s bytes (lst nl xs) x H = some (mls α H.length 1 (xs.length + ys.length), H ++ [bk e 1 (xs ++ ys)]) := by
  subst hs
  have h0 : cl ys ≠ [] := fun q => hy (cl_eq_nil.1 q)
  simp only [evApp, hx, Option.bind_some, if_neg h0, lst, length_cl, ← Nat.add_mul, Nat.mul_div_cancel _ (pos (α := α))]
  rw [if_pos ⟨trivial, hnl, hsz⟩, ← cl_append]
  rfl
theorem evApp_nil {e s bytes : Nat} {x : PV} (hx : srcOf x s H = some []) : evApp e s bytes (lst nl xs) x H = some (lst nl xs, H) := by
  simp only [evApp, hx, Option.bind_some, if_true, lst]
theorem evApp_nil' {e s bytes b gen n : Nat} {x : PV} (hx : srcOf x s H = some []) : evApp e s bytes (mls α b gen n) x H = some (mls α b gen n, H) := by
  simp only [evApp, hx, Option.bind_some, if_true, mls]

theorem evAppp_lst {e s bytes : Nat} {x : PV} {ys : List α} (hs : s = sz α) (hnl : nl = .nil ∨ nl = .ex) (hx : srcOf x s H = some (cl ys)) (hsz : (xs.length + ys.length) * bytes ≤ 140737488355328) (hH : (H.all fun C => C.nr H.length) = true)
    (hc : (xs ++ ys).all cln = true) (hnr : ∀ j, PV.noRefL j (cl (xs ++ ys)) = true) : evAppp e s bytes (lst nl xs) x H = some (if ys = [] then lst nl xs else lst .any (xs ++ ys)) := by
  subst hs
  simp only [evAppp, hx, Option.bind_some, cl_eq_nil]
  split
  · rfl
  · rename_i h0
    have hp := pos (α := α)
    have hl : 0 < ys.length := List.length_pos_iff.2 h0
    simp only [lst, length_cl, ← Nat.add_mul, Nat.mul_div_cancel _ hp, ← cl_append]
    rw [if_pos ⟨⟨trivial, hnl, hsz⟩, hH, hnr _, by rw [clean_cl]; exact hc, by omega, by rw [List.length_append]⟩]

/-! ### Frozen -/
@[simp] theorem frz_int (nl' : Nl) (n : Nat) (k : IntKind) (a : Int) : frz H nl' (n + 1) (.int k a) = some (.int k a) := rfl
@[simp] theorem frz_bool (nl' : Nl) (n : Nat) (b : Bool) : frz H nl' (n + 1) (.bool b) = some (.bool b) := rfl
@[simp] theorem frz_str (nl' : Nl) (n : Nat) (b : ByteArray) : frz H nl' (n + 1) (.str b) = some (.str b) := rfl
@[simp] theorem frz_lst (nl' : Nl) (n : Nat) : frz H nl' (n + 1) (lst nl xs) = some (lst nl xs) := rfl
@[simp] theorem frz_list (nl' nl : Nl) (n s : Nat) (xs : List PV) : frz H nl' (n + 1) (.list nl s xs) = some (.list nl s xs) := rfl
@[simp] theorem frz_pptr (nl' : Nl) (n : Nat) (b : Bool) (ys : List PV) (o : Nat) : frz H nl' (n + 1) (.pptr b ys o) = some (.pptr b ys o) := rfl
@[simp] theorem frz_fmap (nl' : Nl) (n : Nat) (b : Bool) (kn : Option Nat) (ks vs : List PV) : frz H nl' (n + 1) (.fmap b kn ks vs) = some (.fmap b kn ks vs) := rfl
@[simp] theorem frz_nilmap (nl' : Nl) (n : Nat) : frz H nl' (n + 1) .nilmap = some .nilmap := rfl
@[simp] theorem frz_agg (nl' : Nl) (n : Nat) (ys : List PV) : frz H nl' (n + 1) (.agg ys) = (mapO (frz H nl' n) ys).map .agg := rfl
@[simp] theorem frz_tup (nl' : Nl) (n : Nat) (ys : List PV) : frz H nl' (n + 1) (.tup ys) = (mapO (frz H nl' n) ys).map .tup := rfl
@[simp] theorem frz_clo (nl' : Nl) (n : Nat) (fn : Fn) (f c : List PV) : frz H nl' (n + 1) (.clo fn f c) = (mapO (frz H nl' n) f).bind fun f' => (mapO (frz H nl' n) c).map fun c' => .clo fn f' c' := rfl
@[simp] theorem frz_iface (nl' : Nl) (n t : Nat) (v : PV) : frz H nl' (n + 1) (.iface t v) = (frz H nl' n v).map (.iface t) := rfl
@[simp] theorem frz_nilif (nl' : Nl) (n : Nat) : frz H nl' (n + 1) .nilif = some .nilif := rfl
@[simp] theorem frz_nilfn (nl' : Nl) (n : Nat) : frz H nl' (n + 1) .nilfn = some .nilfn := rfl
@[simp] theorem frz_nilptr (nl' : Nl) (n : Nat) : frz H nl' (n + 1) .nilptr = some .nilptr := rfl
@[simp] theorem mapO_nil (f : PV → Option PV) : mapO f [] = some [] := rfl
@[simp] theorem mapO_cons (f : PV → Option PV) (x : PV) (xs : List PV) : mapO f (x :: xs) = (f x).bind fun y => (mapO f xs).map fun ys => y :: ys := by
  simp only [mapO]
@[simp] theorem fzB_nil : fzB H [] = some [] := rfl
@[simp] theorem fzB_cons (x : PV) (xs : List PV) : fzB H (x :: xs) = (frz H .bor 64 x).bind fun y => (fzB H xs).map fun ys => y :: ys := by
  simp only [fzB, mapO]
theorem frz_pureB (nl' : Nl) : ∀ (n : Nat) (x : PV), x.pureB = true → x.one = true → (∀ t v, x ≠ .iface t v) → (∀ fn f c, x ≠ .clo fn f c) → frz H nl' (n + 1) x = some x := by
  intro n x h h1 h2 h3
  cases x <;> simp_all [frz, PV.pureB, PV.one]
/-- Cells that freezing leaves as they are. -/
class Flat (α : Type) [Enc α] : Prop where
  frz : ∀ (H : Hp) (nl : Nl) (n : Nat) (x : α), mapO (frz H nl (n + 1)) (enc x) = some (enc x)
theorem mapO_append {f : PV → Option PV} {xs ys xs' ys' : List PV} (h1 : mapO f xs = some xs') (h2 : mapO f ys = some ys') : mapO f (xs ++ ys) = some (xs' ++ ys') := by
  induction xs generalizing xs' with
  | nil => simp at h1; subst h1; simpa using h2
  | cons x xs ih =>
    simp only [mapO_cons, Option.bind_eq_some_iff, Option.map_eq_some_iff] at h1
    obtain ⟨y, hy, zs, hz, rfl⟩ := h1
    simp only [List.cons_append, mapO_cons, hy, ih hz, Option.bind_some, Option.map_some]
theorem mapO_cl [Flat α] (nl' : Nl) (n : Nat) : ∀ xs : List α, mapO (frz H nl' (n + 1)) (cl xs) = some (cl xs)
  | [] => rfl
  | x :: xs => by rw [cl_cons]; exact mapO_append (Flat.frz H nl' n x) (mapO_cl nl' n xs)
theorem frz_mls [Flat α] {nl' : Nl} {n b gen m e : Nat} (hb : H[b]? = some (bk e gen xs)) (hm : m = xs.length) (hc : nl' = .bor ∨ xs.all cln = true) : frz H nl' (n + 2) (mls α b gen m) = some (lst nl' xs) := by
  subst hm
  have hf : frz H nl' (n + 2) (mls α b gen xs.length) = if xs.length = 0 then some (.list nl' (sz α) []) else
      (srcOf (mls α b gen xs.length) (sz α) H).bind fun ys => (mapO (frz H nl' (n + 1)) ys).bind fun ys' => if nl' == .bor || PV.cleanLB ys' then some (.list nl' (sz α) ys') else none := rfl
  rw [hf]
  split
  · rename_i h0
    rw [List.length_eq_zero_iff.1 h0]; rfl
  · have := srcOf_mls (α := α) (s := sz α) (n := xs.length) hb rfl rfl
    rw [this]
    simp only [Option.bind_some, mapO_cl]
    rw [if_pos]
    · rfl
    · rcases hc with rfl | hc
      · rfl
      · simp [hc]

/-! ### Clean, no references -/
@[simp] theorem cleanB_int (k : IntKind) (a : Int) : PV.cleanB (.int k a) = true := rfl
@[simp] theorem cleanB_bool (b : Bool) : PV.cleanB (.bool b) = true := rfl
@[simp] theorem cleanB_str (b : ByteArray) : PV.cleanB (.str b) = true := rfl
@[simp] theorem cleanB_lst : PV.cleanB (lst nl xs) = (nl != .bor) := rfl
@[simp] theorem cleanB_list (s : Nat) (ys : List PV) : PV.cleanB (.list nl s ys) = (nl != .bor) := rfl
@[simp] theorem cleanB_fmap (b : Bool) (kn : Option Nat) (ks vs : List PV) : PV.cleanB (.fmap b kn ks vs) = !b := by simp only [PV.cleanB]
@[simp] theorem cleanB_mmap (b : Nat) : PV.cleanB (.mmap b) = false := rfl
@[simp] theorem cleanB_nilmap : PV.cleanB .nilmap = true := rfl
@[simp] theorem pureB_fmap (b : Bool) (kn : Option Nat) (ks vs : List PV) : PV.pureB (.fmap b kn ks vs) = true := rfl
@[simp] theorem pureB_mmap (b : Nat) : PV.pureB (.mmap b) = false := rfl
@[simp] theorem pureB_nilmap : PV.pureB .nilmap = true := rfl
@[simp] theorem one_fmap (b : Bool) (kn : Option Nat) (ks vs : List PV) : PV.one (.fmap b kn ks vs) = true := rfl
@[simp] theorem one_mmap (b : Nat) : PV.one (.mmap b) = true := rfl
@[simp] theorem one_nilmap : PV.one .nilmap = true := rfl
@[simp] theorem cells_fmap (b : Bool) (kn : Option Nat) (ks vs : List PV) : PV.cells (.fmap b kn ks vs) = [.fmap b kn ks vs] := rfl
@[simp] theorem cells_mmap (b : Nat) : PV.cells (.mmap b) = [.mmap b] := rfl
@[simp] theorem cells_nilmap : PV.cells .nilmap = [.nilmap] := rfl
@[simp] theorem cleanB_agg (ys : List PV) : PV.cleanB (.agg ys) = PV.cleanLB ys := by rw [PV.cleanB]
@[simp] theorem cleanB_tup (ys : List PV) : PV.cleanB (.tup ys) = PV.cleanLB ys := by rw [PV.cleanB]
@[simp] theorem cleanB_iface (t : Nat) (v : PV) : PV.cleanB (.iface t v) = v.cleanB := by rw [PV.cleanB]
@[simp] theorem cleanB_nilif : PV.cleanB .nilif = true := rfl
@[simp] theorem cleanB_clo (fn : Fn) (f c : List PV) : PV.cleanB (.clo fn f c) = (PV.cleanLB f && PV.cleanLB c) := by rw [PV.cleanB]
@[simp] theorem cleanLB_nil : PV.cleanLB [] = true := rfl
@[simp] theorem cleanLB_cons (x : PV) (ys : List PV) : PV.cleanLB (x :: ys) = (x.cleanB && PV.cleanLB ys) := by rw [PV.cleanLB]
@[simp] theorem pureB_int (k : IntKind) (a : Int) : PV.pureB (.int k a) = true := rfl
@[simp] theorem pureB_bool (b : Bool) : PV.pureB (.bool b) = true := rfl
@[simp] theorem pureB_str (b : ByteArray) : PV.pureB (.str b) = true := rfl
@[simp] theorem pureB_lst : PV.pureB (lst nl xs) = true := rfl
@[simp] theorem pureB_list (s : Nat) (ys : List PV) : PV.pureB (.list nl s ys) = true := rfl
@[simp] theorem pureB_pptr (b : Bool) (ys : List PV) (o : Nat) : PV.pureB (.pptr b ys o) = true := rfl
@[simp] theorem pureB_clo (fn : Fn) (f c : List PV) : PV.pureB (.clo fn f c) = (PV.pureLB f && PV.pureLB c) := by rw [PV.pureB]
@[simp] theorem pureB_iface (t : Nat) (v : PV) : PV.pureB (.iface t v) = v.pureB := by rw [PV.pureB]
@[simp] theorem pureB_nilif : PV.pureB .nilif = true := rfl
@[simp] theorem pureLB_nil : PV.pureLB [] = true := rfl
@[simp] theorem pureLB_cons (x : PV) (ys : List PV) : PV.pureLB (x :: ys) = (x.pureB && PV.pureLB ys) := by rw [PV.pureLB]
@[simp] theorem one_int (k : IntKind) (a : Int) : PV.one (.int k a) = true := rfl
@[simp] theorem one_bool (b : Bool) : PV.one (.bool b) = true := rfl
@[simp] theorem one_str (b : ByteArray) : PV.one (.str b) = true := rfl
@[simp] theorem one_lst : PV.one (lst nl xs) = true := rfl
@[simp] theorem one_list (s : Nat) (ys : List PV) : PV.one (.list nl s ys) = true := rfl
@[simp] theorem one_mls (b gen n : Nat) : PV.one (mls α b gen n) = true := rfl
@[simp] theorem one_clo (fn : Fn) (f c : List PV) : PV.one (.clo fn f c) = true := rfl
@[simp] theorem one_iface (t : Nat) (v : PV) : PV.one (.iface t v) = true := rfl
@[simp] theorem one_nilif : PV.one .nilif = true := rfl
@[simp] theorem cells_int (k : IntKind) (a : Int) : PV.cells (.int k a) = [.int k a] := rfl
@[simp] theorem cells_bool (b : Bool) : PV.cells (.bool b) = [.bool b] := rfl
@[simp] theorem cells_str (b : ByteArray) : PV.cells (.str b) = [.str b] := rfl
@[simp] theorem cells_agg (ys : List PV) : PV.cells (.agg ys) = ys := rfl
@[simp] theorem cells_lst : PV.cells (lst nl xs) = [lst nl xs] := rfl
@[simp] theorem cells_mls (b gen n : Nat) : PV.cells (mls α b gen n) = [mls α b gen n] := rfl
@[simp] theorem cells_list (s : Nat) (ys : List PV) : PV.cells (.list nl s ys) = [.list nl s ys] := rfl
@[simp] theorem cells_clo (fn : Fn) (f c : List PV) : PV.cells (.clo fn f c) = [.clo fn f c] := rfl
@[simp] theorem cells_iface (t : Nat) (v : PV) : PV.cells (.iface t v) = [.iface t v] := rfl
@[simp] theorem noRef_int (j : Nat) (k : IntKind) (a : Int) : PV.noRef j (.int k a) = true := rfl
@[simp] theorem noRef_bool (j : Nat) (b : Bool) : PV.noRef j (.bool b) = true := rfl
@[simp] theorem noRef_lst (j : Nat) : PV.noRef j (lst nl xs) = true := rfl
@[simp] theorem noRef_list (j s : Nat) (ys : List PV) : PV.noRef j (.list nl s ys) = true := rfl
@[simp] theorem noRef_mls (j b gen n : Nat) : PV.noRef j (mls α b gen n) = decide (b < j) := by simp only [mls, PV.noRef]
@[simp] theorem noRef_mep (j b gen n o : Nat) : PV.noRef j (mep α b gen n o) = decide (b < j) := by simp only [mep, PV.noRef]
@[simp] theorem noRef_ept (j : Nat) (b : Bool) (n o : Nat) : PV.noRef j (ept b xs n o) = true := rfl
@[simp] theorem noRef_pptr (j : Nat) (b : Bool) (ys : List PV) (o : Nat) : PV.noRef j (.pptr b ys o) = true := rfl
@[simp] theorem noRef_mptr (j b gen o : Nat) : PV.noRef j (.mptr b gen o) = decide (b < j) := by simp only [PV.noRef]
@[simp] theorem noRef_mmap (j b : Nat) : PV.noRef j (.mmap b) = decide (b < j) := by simp only [PV.noRef]
@[simp] theorem noRef_stp (j b : Nat) (k : PV) : PV.noRef j (.stp b k) = decide (b < j) := by simp only [PV.noRef]
@[simp] theorem noRef_fmap (j : Nat) (b : Bool) (kn : Option Nat) (ks vs : List PV) : PV.noRef j (.fmap b kn ks vs) = true := rfl
@[simp] theorem noRef_nilmap (j : Nat) : PV.noRef j .nilmap = true := rfl
@[simp] theorem noRef_agg (j : Nat) (ys : List PV) : PV.noRef j (.agg ys) = PV.noRefL j ys := by simp only [PV.noRef]
@[simp] theorem noRef_tup (j : Nat) (ys : List PV) : PV.noRef j (.tup ys) = PV.noRefL j ys := by simp only [PV.noRef]
@[simp] theorem noRef_clo (j : Nat) (fn : Fn) (f c : List PV) : PV.noRef j (.clo fn f c) = (PV.noRefL j f && PV.noRefL j c) := by simp only [PV.noRef]
@[simp] theorem noRef_iface (j t : Nat) (v : PV) : PV.noRef j (.iface t v) = v.noRef j := by simp only [PV.noRef]
@[simp] theorem noRef_undef (j : Nat) : PV.noRef j .undef = true := rfl
@[simp] theorem noRefL_nil (j : Nat) : PV.noRefL j [] = true := rfl
@[simp] theorem noRefL_cons (j : Nat) (x : PV) (ys : List PV) : PV.noRefL j (x :: ys) = (x.noRef j && PV.noRefL j ys) := by simp only [PV.noRefL]
mutual
theorem noRef_of_pureB (j : Nat) : ∀ x : PV, x.pureB = true → x.noRef j = true
  | .clo fn f c, h => by simp at h; simp [noRefL_of_pureLB j f h.1, noRefL_of_pureLB j c h.2]
  | .iface t v, h => by simp at h; simp [noRef_of_pureB j v h]
  | .agg xs, h => by simp [PV.pureB] at h; simp [noRefL_of_pureLB j xs h]
  | .tup xs, h => by simp [PV.pureB] at h; simp [noRefL_of_pureLB j xs h]
  | .msl .., h => by simp [PV.pureB] at h
  | .mptr .., h => by simp [PV.pureB] at h
  | .mmap _, h => by simp [PV.pureB] at h
  | .stp .., h => by simp [PV.pureB] at h
  | .fmap .., _ | .nilmap, _ | .undef, _ | .bool _, _ | .int _ _, _ | .str _, _ | .list .., _ | .pptr .., _ | .nilptr, _ | .nilfn, _ | .nilif, _ => rfl
theorem noRefL_of_pureLB (j : Nat) : ∀ xs : List PV, PV.pureLB xs = true → PV.noRefL j xs = true
  | [], _ => rfl
  | x :: xs, h => by simp at h; simp [noRef_of_pureB j x h.1, noRefL_of_pureLB j xs h.2]
end
@[simp] theorem noRefL_cl (j : Nat) (h : ph α = true) : PV.noRefL j (cl xs) = true := noRefL_of_pureLB j _ (pure_cl h xs)
@[simp] theorem trimOk_eq (n : Nat) (e : Env) (H : Hp) : trimOk n e H = (e.all (fun x => x.2.noRef n) && (H.take n).all fun B => B.nr n) := rfl
end

@[simp] theorem retV_one (e : Env) (H : Hp) (t : Nat) : retV e H [.tmp t] = some (get e t) := rfl
@[simp] theorem retV_cell (e : Env) (H : Hp) (t : Nat) (n : Option Nat) : retV e H [.cell t n] = evLd n (get e t) H := by
  simp only [retV, resL, resV]
  cases evLd n (get e t) H <;> rfl
@[simp] theorem retV_nil (e : Env) (H : Hp) : retV e H [] = some (.tup []) := rfl
@[simp] theorem retV_two (e : Env) (H : Hp) (r1 r2 : PRes) (rs : List PRes) : retV e H (r1 :: r2 :: rs) = (resL e H (r1 :: r2 :: rs)).map .tup := by
  simp only [retV]
  cases h : resL e H (r1 :: r2 :: rs) with
  | none => rfl
  | some l =>
    simp only [resL, Option.bind_eq_some_iff, Option.map_eq_some_iff] at h
    obtain ⟨v, _, l', ⟨w, _, l'', _, rfl⟩, rfl⟩ := h
    rfl
@[simp] theorem resL_nil (e : Env) (H : Hp) : resL e H [] = some [] := rfl
@[simp] theorem resL_cons (e : Env) (H : Hp) (r : PRes) (rs : List PRes) : resL e H (r :: rs) = (resV e H r).bind fun v => (resL e H rs).map fun vs => v :: vs := rfl
@[simp] theorem resV_tmp (e : Env) (H : Hp) (t : Nat) : resV e H (.tmp t) = some (get e t) := rfl
@[simp] theorem resV_cell (e : Env) (H : Hp) (t : Nat) (n : Option Nat) : resV e H (.cell t n) = evLd n (get e t) H := rfl
@[simp] theorem evBoxp_eq (v : PV) : evBoxp v = if v.cells.all PV.one && PV.pureLB v.cells then some (.pptr (!PV.cleanLB v.cells) v.cells 0) else none := rfl
@[simp] theorem evBoxm_eq (e : Nat) (v : PV) (H : Hp) : evBoxm e v H = if v.cells.all PV.one then some (.mptr H.length 0 0, H ++ [⟨e, 0, v.cells, none⟩]) else none := rfl
attribute [simp] evNckM ends cloArgs evBld evFld evIxA evNck evEqNil isNil? evEqs eqCells
@[simp] theorem evFill_nil (z : List PV) : evFill z [] = some z := by rw [evFill]
@[simp] theorem evFill_cons (z : List PV) (off size : Nat) (x : PV) (r : List (Nat × Nat × PV)) : evFill z ((off, size, x) :: r) = if x.cells.length = size ∧ off + size ≤ z.length ∧ x.cells.all PV.one = true then evFill (setCells z off x.cells) r else none := by rw [evFill]
@[simp] theorem setCells_nil (xs : List PV) (o : Nat) : setCells xs o [] = xs := by rw [setCells]
@[simp] theorem setCells_cons (xs : List PV) (o : Nat) (y : PV) (ys : List PV) : setCells xs o (y :: ys) = setCells (xs.set o y) (o + 1) ys := by rw [setCells]
@[simp] theorem Ends_eq (res : List PRes) (r : PV) (x : PX) (e : Env) (h : Hp) : Ends res r x e h = (ends x = true ∧ (retV e h res).bind (frz h .any 64) = some r) := rfl
@[simp] theorem evCp_eq (cp : Nat → List PV → Option PV) (fz : Hp → List PV → Option (List PV)) (H : Hp) (f : Nat) (az : List PV) : evCp cp fz H f az = if PV.pureLB az = true then cp f az else (fz H az).bind fun ys => (cp f ys).bind fun r => if r.cleanB = true then some r else none := rfl
@[simp] theorem EndsO_eq (res : List PRes) (r : PV) (h' : Hp) (x : PX) (e : Env) (h : Hp) : EndsO res r h' x e h = (ends x = true ∧ retV e h res = some r ∧ h = h') := rfl
theorem env0_eq (args : List PV) : env0 args = args.zipIdx.map fun x => (x.2, x.1) := rfl

/-! ### Types that come often -/
instance : Enc Int where
  sz := 1
  enc n := [.int .i64 n]
  dec | [.int .i64 n] => some n | _ => none
  cln _ := true
  pos := by decide
  len _ := rfl
  one _ := rfl
  pur _ := rfl
  hcln _ := rfl
  dec_enc _ := rfl
  enc_dec l x h := by
    split at h
    · simp only [Option.some.injEq] at h; subst h; rfl
    · cases h
instance : Flat Int := ⟨fun _ _ _ _ => rfl⟩
instance : Enc Bool where
  sz := 1
  enc b := [.bool b]
  dec | [.bool b] => some b | _ => none
  cln _ := true
  pos := by decide
  len _ := rfl
  one _ := rfl
  pur _ := rfl
  hcln _ := rfl
  dec_enc _ := rfl
  enc_dec l x h := by
    split at h
    · simp only [Option.some.injEq] at h; subst h; rfl
    · cases h
instance : Flat Bool := ⟨fun _ _ _ _ => rfl⟩
@[simp] theorem sz_int : Enc.sz Int = 1 := rfl
@[simp] theorem enc_int (n : Int) : Enc.enc n = [PV.int .i64 n] := rfl
@[simp] theorem dec_int (n : Int) : (Enc.dec [PV.int .i64 n] : Option Int) = some n := rfl
@[simp] theorem cln_int (n : Int) : Enc.cln n = true := rfl
@[simp] theorem sz_bool : Enc.sz Bool = 1 := rfl
@[simp] theorem enc_bool (b : Bool) : Enc.enc b = [PV.bool b] := rfl
@[simp] theorem dec_bool (b : Bool) : (Enc.dec [PV.bool b] : Option Bool) = some b := rfl
@[simp] theorem cln_bool (b : Bool) : Enc.cln b = true := rfl
attribute [simp] rep_one evBsl
@[simp] theorem list_int1 (nl : Nl) (a : Int) : PV.list nl 1 [.int .i64 a] = lst nl [a] := rfl
@[simp] theorem list_int2 (nl : Nl) (a b : Int) : PV.list nl 1 [.int .i64 a, .int .i64 b] = lst nl [a, b] := rfl
@[simp] theorem list_int3 (nl : Nl) (a b c : Int) : PV.list nl 1 [.int .i64 a, .int .i64 b, .int .i64 c] = lst nl [a, b, c] := rfl
@[simp] theorem list_int4 (nl : Nl) (a b c d : Int) : PV.list nl 1 [.int .i64 a, .int .i64 b, .int .i64 c, .int .i64 d] = lst nl [a, b, c, d] := rfl
theorem cl_inj {α : Type} [Enc α] : ∀ {xs ys : List α}, cl xs = cl ys → xs = ys
  | [], [], _ => rfl
  | [], y :: ys, h => by
    have := congrArg List.length h
    have h0 := Enc.pos (α := α)
    simp only [length_cl, List.length_nil, List.length_cons, Nat.zero_mul, Nat.succ_mul] at this
    omega
  | x :: xs, [], h => by
    have := congrArg List.length h
    have h0 := Enc.pos (α := α)
    simp only [length_cl, List.length_nil, List.length_cons, Nat.zero_mul, Nat.succ_mul] at this
    omega
  | x :: xs, y :: ys, h => by
    rw [cl_cons, cl_cons] at h
    obtain ⟨h1, h2⟩ := List.append_inj h (by rw [Enc.len, Enc.len])
    rw [enc_inj h1, cl_inj h2]
theorem lst_inj {α : Type} [Enc α] {nl nl' : Nl} {xs ys : List α} (h : lst nl xs = lst nl' ys) : nl = nl' ∧ xs = ys := by
  simp only [lst, PV.list.injEq] at h
  exact ⟨h.1, cl_inj h.2.2⟩
/-- Whether f is true somewhere from i on, ahead of n. -/
def anyN (f : Nat → Bool) (i n : Nat) : Bool := (List.range' i (n - i)).any f
theorem anyN_t {f : Nat → Bool} {i₀ n i : Nat} (h0 : i₀ ≤ i) (h : i < n) (hf : f i = true) : anyN f i₀ n = true :=
  List.any_eq_true.2 ⟨i, List.mem_range'_1.2 ⟨h0, by omega⟩, hf⟩
theorem anyN_f {f : Nat → Bool} {i₀ n : Nat} (h : ∀ i, i₀ ≤ i → i < n → f i = false) : anyN f i₀ n = false := by
  rw [anyN, List.any_eq_false]
  intro i hi
  have := List.mem_range'_1.1 hi
  simp [h i this.1 (by omega)]
/-- The value of a row of cells, where the rows tell values apart. -/
noncomputable def decOf {α : Type} (enc : α → List PV) (l : List PV) : Option α := by
  classical exact if h : ∃ x, enc x = l then some h.choose else none
theorem decOf_enc {α : Type} {enc : α → List PV} (hi : ∀ x y, enc x = enc y → x = y) (x : α) : decOf enc (enc x) = some x := by
  unfold decOf
  rw [dif_pos ⟨x, rfl⟩]
  exact congrArg some (hi _ _ (Exists.choose_spec (⟨x, rfl⟩ : ∃ y, enc y = enc x)))
theorem enc_decOf {α : Type} {enc : α → List PV} {l : List PV} {x : α} (h : decOf enc l = some x) : enc x = l := by
  unfold decOf at h
  split at h
  · rename_i hh
    simp only [Option.some.injEq] at h
    subst h
    exact hh.choose_spec
  · cases h
/-- A slice within a slice. -/
structure Sl (α : Type) where
  nl : Nl
  xs : List α
end Go.Proofs.Ytmbknidfkddpfaa.PM
