/- The pure machine, part 18: blocks of the small heap, where they lie in sight. -/
import Derived.Test.YtmbknidfkddpfaaPmSeventeen
set_option linter.unusedVariables false
set_option linter.unusedSimpArgs false
namespace Go.Proofs.Ytmbknidfkddpfaa.PM
open Enc
section
variable (α : Type) [Enc α]
def ldB (n : Option Nat) (o : Option Blk) (gen j off : Nat) : Option PV := o.bind fun B => if B.gen = gen then cutV n B.xs (j * sz α + off) else none
def stB (n : Nat) (o : Option Blk) (H : Hp) (b gen j off : Nat) (v : PV) : Option Hp :=
  o.bind fun B => if B.gen = gen ∧ v.cells.length = n ∧ 0 < n ∧ j * sz α + off + n ≤ B.xs.length ∧ v.cells.all PV.one = true then some (H.set b ⟨B.e, B.gen, setCells B.xs (j * sz α + off) v.cells, none⟩) else none
/-- (a name of its own) -/
def stBraw := stB
def appB (o : Option Blk) (H : Hp) (b gen n e bytes : Nat) (ys : List α) : Option (PV × Hp) :=
  if (n + ys.length) * bytes ≤ 140737488355328 then o.bind fun B => if B.gen = gen ∧ B.e = e ∧ B.mp = none ∧ n * sz α ≤ B.xs.length then some (mls α b (gen + 1) (n + ys.length), H.set b ⟨e, gen + 1, B.xs.take (n * sz α) ++ cl ys, none⟩) else none else none
def frzB (H : Hp) (nl' : Nl) (n : Nat) (o : Option Blk) (gen m : Nat) : Option PV :=
  if m = 0 then some (.list nl' (sz α) []) else (o.bind fun B => if B.gen = gen ∧ m * sz α ≤ B.xs.length then some (B.xs.take (m * sz α)) else none).bind fun ys =>
    (mapO (frz H nl' (n + 1)) ys).bind fun ys' => if nl' == .bor || PV.cleanLB ys' then some (.list nl' (sz α) ys') else none
end
section
variable {α : Type} [Enc α] {nl : Nl} {xs ys : List α} {H : Hp}
@[simp] theorem evLd_mepC {n : Option Nat} {b gen j off : Nat} : evLd n (mep α b gen j off) H = ldB α n H[b]? gen j off := by
  simp only [mep, evLd, ldB]
  cases H[b]? <;> rfl
@[simp] theorem ldB_bk {n : Option Nat} {e gen j off : Nat} (hj : j < xs.length) (ho : Nat.ble (off + n.getD 1) (sz α) = true) : ldB α n (some ⟨e, gen, cl xs, none⟩) gen j off = cutV n (enc xs[j]) off := by
  simp only [ldB, Option.bind_some, if_true]
  exact cut_row (List.getElem?_eq_getElem hj) (Nat.le_of_ble_eq_true ho)
@[simp] theorem evSt_mepC {n b gen j off : Nat} {v : PV} : evSt n (mep α b gen j off) v H = stB α n H[b]? H b gen j off v := by
  simp only [mep, evSt, stB]
  cases H[b]? <;> rfl
@[simp] theorem stB_bk {n e b gen j off : Nat} {v : PV} (hj : j < xs.length) (ho : Nat.ble (off + n) (sz α) = true) :
    stB α n (some ⟨e, gen, cl xs, none⟩) H b gen j off v = if v.cells.length = n ∧ 0 < n ∧ v.cells.all PV.one = true then
      (match (dec (setCells (enc xs[j]) off v.cells) : Option α) with | some x' => some (H.set b (bk e gen (xs.set j x'))) | none => stBraw α n (some ⟨e, gen, cl xs, none⟩) H b gen j off v) else none := by
  have ho := Nat.le_of_ble_eq_true ho
  have hle := ept_le hj (show off + n ≤ sz α from ho)
  split
  case isFalse hn =>
    simp only [stB, Option.bind_some]
    rw [if_neg]
    rintro ⟨_, h1, h2, _, h3⟩
    exact hn ⟨h1, h2, h3⟩
  rename_i hc
  obtain ⟨hn, h0, h1⟩ := hc
  split
  · rename_i x' hd
    simp only [stB, Option.bind_some]
    rw [if_pos ⟨trivial, hn, h0, by rw [length_cl]; omega, h1⟩]
    congr 2
    have hx : xs[j]? = some xs[j] := List.getElem?_eq_getElem hj
    have hc := enc_getElem? hx
    have hl : (cl (xs.take j)).length = j * sz α := by rw [length_cl, List.length_take, Nat.min_eq_left (by omega)]
    have h2 : enc x' = setCells (enc xs[j]) off v.cells := enc_dec _ _ hd
    simp only [bk]
    congr 1
    rw [hc, ← hl, setCells_app _ _ _ _ _ (by rw [len, hn]; omega), ← h2]
    have hx' : (xs.set j x')[j]? = some x' := by simp [hj]
    rw [enc_getElem? hx', List.take_set_of_le (Nat.le_refl _), List.drop_set_of_lt (by omega)]
  · rfl
@[simp] theorem evApp_mls_lst {e s bytes b gen n : Nat} : evApp e s bytes (mls α b gen n) (lst nl ys) H = if s = sz α then (if ys = [] then some (mls α b gen n, H) else appB α H[b]? H b gen n e bytes ys) else none := by
  by_cases hs : s = sz α
  · subst hs
    rw [if_pos rfl]
    have hx := srcOf_lst (nl := nl) (xs := ys) (H := H) (sz α)
    rw [if_pos rfl] at hx
    by_cases hy : ys = []
    · subst hy
      rw [if_pos rfl]
      exact evApp_nil' hx
    · rw [if_neg hy]
      have h0 : cl ys ≠ [] := fun q => hy (cl_eq_nil.1 q)
      simp only [evApp, hx, Option.bind_some, if_neg h0, mls, length_cl, Nat.mul_div_cancel _ (pos (α := α)), appB, true_and]
      cases H[b]? <;> rfl
  · rw [if_neg hs]
    have hx : srcOf (lst nl ys) s H = none := by rw [srcOf_lst, if_neg hs]
    simp only [evApp, hx, Option.bind_none]
@[simp] theorem appB_bk {e b gen n bytes : Nat} (hn : n = xs.length) (hs : (n + ys.length) * bytes ≤ 140737488355328) : appB α (some ⟨e, gen, cl xs, none⟩) H b gen n e bytes ys = some (mls α b (gen + 1) (n + ys.length), H.set b (bk e (gen + 1) (xs ++ ys))) := by
  subst hn
  simp only [appB, if_pos hs, Option.bind_some]
  rw [if_pos ⟨trivial, trivial, trivial, by rw [length_cl]; exact Nat.le_refl _⟩, take_cl, List.take_length, ← cl_append]
@[simp] theorem appB_bk1 {e b gen n bytes : Nat} {y : α} (hn : n = xs.length) (hs : (n + 1) * bytes ≤ 140737488355328) : appB α (some ⟨e, gen, cl xs, none⟩) H b gen n e bytes [y] = some (mls α b (gen + 1) (n + 1), H.set b (bk e (gen + 1) (xs ++ [y]))) :=
  appB_bk hn (by simpa using hs)
@[simp] theorem evApp_nil_lst {e s s' bytes : Nat} (hs : ys.length * bytes ≤ 140737488355328) : evApp e s bytes (.list .nil s' []) (lst nl ys) H = if s = sz α ∧ s' = sz α then (if ys = [] then some (.list .nil s' [], H) else some (mls α H.length 1 ys.length, H ++ [bk e 1 ys])) else if s = sz α ∧ ys = [] then some (.list .nil s' [], H) else none := by
  by_cases h1 : s = sz α
  · subst h1
    have hx := srcOf_lst (nl := nl) (xs := ys) (H := H) (sz α)
    rw [if_pos rfl] at hx
    by_cases hy : ys = []
    · subst hy
      simp [evApp, hx]
    · have h0 : cl ys ≠ [] := fun q => hy (cl_eq_nil.1 q)
      simp only [evApp, hx, Option.bind_some, if_neg h0, length_cl, List.length_nil, Nat.zero_add, Nat.mul_div_cancel _ (pos (α := α)), List.nil_append]
      by_cases h2 : s' = sz α
      · simp [h2, hy, hs, mls]
      · simp [h2, hy]
  · have hx : srcOf (lst nl ys) s H = none := by rw [srcOf_lst, if_neg h1]
    simp [evApp, hx, h1]
@[simp] theorem evApp_nil_nil {e s s' bytes : Nat} : evApp e s bytes (.list .nil s' []) (lst nl ([] : List α)) H = if s = sz α then some (.list .nil s' [], H) else none := by
  have hx := srcOf_lst (nl := nl) (xs := ([] : List α)) (H := H) s
  by_cases h1 : s = sz α
  · rw [if_pos h1] at hx
    simp only [evApp, hx, Option.bind_some, cl_nil, if_true]
    rw [if_pos h1]
  · rw [if_neg h1] at hx
    simp only [evApp, hx, Option.bind_none]
    rw [if_neg h1]
@[simp] theorem frz_mlsC {nl' : Nl} {n b gen m : Nat} : frz H nl' (n + 2) (mls α b gen m) = frzB α H nl' n H[b]? gen m := by
  have hf : frz H nl' (n + 2) (mls α b gen m) = if m = 0 then some (.list nl' (sz α) []) else
      (srcOf (mls α b gen m) (sz α) H).bind fun ys => (mapO (frz H nl' (n + 1)) ys).bind fun ys' => if nl' == .bor || PV.cleanLB ys' then some (.list nl' (sz α) ys') else none := rfl
  rw [hf]
  unfold frzB
  split
  · rfl
  · rename_i h0
    congr 1
    simp only [mls, srcOf, if_true, h0, if_false, Nat.zero_add, List.drop_zero]
    cases H[b]? <;> rfl
@[simp] theorem frzB_bk [Flat α] {nl' : Nl} {n gen m e : Nat} (hm : m = xs.length) : frzB α H nl' n (some ⟨e, gen, cl xs, none⟩) gen m = if (nl' == .bor || xs.all cln) = true then some (lst nl' xs) else none := by
  subst hm
  have h2 : mapO (frz H nl' (n + 1)) (cl xs) = some (cl xs) := mapO_cl nl' n xs
  have h3 : List.take (xs.length * sz α) (cl xs) = cl xs := by rw [← length_cl, List.take_length]
  unfold frzB
  split
  · rename_i h0
    rw [List.length_eq_zero_iff.1 h0]; simp [lst]
  · simp only [Option.bind_some, length_cl, Nat.le_refl, and_self, if_true, h3, h2]
    rw [clean_cl]; rfl
omit [Enc α] in
@[simp] theorem evMks_int {e bytes : Nat} {k k' : IntKind} {l c : Int} (h0 : 0 ≤ l) (h1 : l ≤ c) (h2 : (bytes : Int) * c ≤ 281474976710656) :
    evMks e 1 bytes [.int .i64 0] (.int k l) (.int k' c) H = some (mls Int H.length 0 l.toNat, H ++ [bk e 0 (List.replicate l.toNat (0 : Int))]) := evMks_eq rfl rfl h0 h1 h2
omit [Enc α] in
@[simp] theorem evMks_bool {e bytes : Nat} {k k' : IntKind} {l c : Int} (h0 : 0 ≤ l) (h1 : l ≤ c) (h2 : (bytes : Int) * c ≤ 281474976710656) :
    evMks e 1 bytes [.bool false] (.int k l) (.int k' c) H = some (mls Bool H.length 0 l.toNat, H ++ [bk e 0 (List.replicate l.toNat false)]) := evMks_eq rfl rfl h0 h1 h2
/-- Whether a copy is nil. -/
def nlA {α : Type} (ys : List α) : Nl := match ys with | [] => .nil | _ => .any
omit [Enc α] in
@[simp] theorem nlA_bor : (nlA xs = .bor) = False := by cases xs <;> simp [nlA]
omit [Enc α] in
@[simp] theorem nlA_beq : (nlA xs == .bor) = false := by cases xs <;> rfl
omit [Enc α] in
@[simp] theorem nlA_bne : (nlA xs != .bor) = true := by cases xs <;> rfl
/-- Append to nil, where nobody writes the result. -/
@[simp] theorem evAppp_nil_lst {e s s' bytes : Nat} (hs : s = sz α) (hs' : s' = sz α) (hsz : ys.length * bytes ≤ 140737488355328) (hp : ph α = true) :
    evAppp e s bytes (.list .nil s' []) (lst nl ys) H = if ys = [] ∨ (H.all fun C => C.nr H.length) = true ∧ ys.all cln = true then some (lst (nlA ys) ys) else none := by
  subst hs
  subst hs'
  have hx := srcOf_lst (nl := nl) (xs := ys) (H := H) (sz α)
  rw [if_pos rfl] at hx
  by_cases hy : ys = []
  · subst hy
    simp only [evAppp, hx, Option.bind_some, cl_nil, if_true, true_or]
    rfl
  simp only [hy, false_or, if_false]
  split
  · rename_i h
    have := evAppp_lst (α := α) (xs := []) (nl := .nil) (e := e) (s := sz α) (bytes := bytes) (H := H) (x := lst nl ys) rfl (.inl rfl) hx (by simpa using hsz) h.1 (by simpa using h.2) (by simp [hp])
    rw [show (lst .nil ([] : List α)) = .list .nil (sz α) [] from rfl] at this
    rw [this]
    simp only [hy, if_false, List.nil_append]
    cases ys
    · exact absurd rfl hy
    · rfl
  · rename_i h
    have h0 : cl ys ≠ [] := fun q => hy (cl_eq_nil.1 q)
    simp only [evAppp, hx, Option.bind_some, if_neg h0]
    rw [if_neg]
    rintro ⟨_, h1, _, h2, _⟩
    exact h ⟨h1, by simpa using h2⟩
end
@[simp] theorem rep_1 (z : List PV) : rep 1 z = z := by
  apply List.ext_getElem?
  intro i
  simp only [rep, Nat.one_mul, List.getElem?_map]
  by_cases hi : i < z.length
  · rw [List.getElem?_range hi]
    simp [Nat.mod_eq_of_lt hi, hi]
  · rw [List.getElem?_eq_none (by simp; omega), List.getElem?_eq_none (by omega)]; rfl
/-! ### Checks for nil -/
def evNckS := evNckM
section
variable {cp' : Nat → List PV → Option PV} {fz : Hp → List PV → Option (List PV)} {meth : Nat → String → Option Nat} {H : Hp} {env : Env}
@[simp ↓ high] theorem evR_nck {x : POpd} : evR cp' fz meth env H (.nck x) = evNckS meth (ev env x) := rfl
@[simp] theorem evNckS_mep {α : Type} [Enc α] {b gen j off : Nat} : evNckS meth (mep α b gen j off) = some (mep α b gen j off) := rfl
@[simp] theorem evNckS_mptr {b gen off : Nat} : evNckS meth (.mptr b gen off) = some (.mptr b gen off) := rfl
@[simp] theorem evNckS_pptr {b : Bool} {xs : List PV} {off : Nat} : evNckS meth (.pptr b xs off) = some (.pptr b xs off) := rfl
@[simp] theorem evNckS_ept {α : Type} [Enc α] {b : Bool} {xs : List α} {j off : Nat} : evNckS meth (ept b xs j off) = some (ept b xs j off) := rfl
@[simp] theorem evNckS_iface {t : Nat} {v : PV} : evNckS meth (.iface t v) = some (.iface t v) := rfl
@[simp] theorem evNckS_func {f : Nat} {a c : List PV} : evNckS meth (.clo (.func f) a c) = some (.clo (.func f) a c) := rfl
theorem evNckS_meth {t : Nat} {name : String} {v : PV} {c : List PV} (h : (meth t name).isSome = true) : evNckS meth (.clo (.method name) [.iface t v] c) = some (.clo (.method name) [.iface t v] c) := by
  simp only [evNckS, evNckM, h, if_true]
end
/-- A list whose places are written one by one. -/
def fillL {α : Type} (z : List α) (f : Nat → α) : Nat → List α
  | 0 => z
  | i + 1 => (fillL z f i).set i (f i)
@[simp] theorem fillL_len {α : Type} (z : List α) (f : Nat → α) (i : Nat) : (fillL z f i).length = z.length := by
  induction i with
  | zero => rfl
  | succ i ih => simp [fillL, ih]
theorem fillL_get {α : Type} {z : List α} {f : Nat → α} {j : Nat} (hj : j < z.length) (i : Nat) : (fillL z f i)[j]? = if j < i then some (f j) else z[j]? := by
  induction i with
  | zero => rfl
  | succ i ih =>
    simp only [fillL, List.getElem?_set, fillL_len]
    by_cases h : i = j
    · subst h; simp [hj]
    · rw [if_neg h, ih]
      by_cases h2 : j < i
      · rw [if_pos h2, if_pos (by omega)]
      · rw [if_neg h2, if_neg (by omega)]
theorem fillL_all {α : Type} {z : List α} {f : Nat → α} {ys : List α} (hl : ys.length = z.length) (h : ∀ j, j < z.length → ys[j]? = some (f j)) : fillL z f z.length = ys := by
  apply List.ext_getElem?
  intro j
  by_cases hj : j < z.length
  · rw [fillL_get hj, if_pos hj, h j hj]
  · rw [List.getElem?_eq_none (by simp; omega), List.getElem?_eq_none (by omega)]
theorem take_snoc {α : Type} {xs : List α} {i : Nat} (h : i < xs.length) : xs.take i ++ [xs[i]] = xs.take (i + 1) := by simp
end Go.Proofs.Ytmbknidfkddpfaa.PM
