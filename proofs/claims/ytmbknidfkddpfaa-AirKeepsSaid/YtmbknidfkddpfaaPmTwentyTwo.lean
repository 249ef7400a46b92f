/- The pure machine, part 22 (behind 6): maps. -/
import Derived.Test.YtmbknidfkddpfaaPmSix
import Derived.ChangeKeysEq
import Derived.WideKeyRuns
set_option linter.unusedVariables false
set_option linter.unusedSimpArgs false
namespace Go.Proofs.Ytmbknidfkddpfaa.PM
open Go.MapKept (Stamped)

/-! ### Keys -/
def keq1 : PV → PV → Bool
  | .int _ a, .int _ b => a == b
  | _, _ => false
def keqL : List PV → List PV → Bool
  | [], [] => true
  | x :: xs, y :: ys => keq1 x y && keqL xs ys
  | _, _ => false
def keq : PV → PV → Bool
  | .agg xs, .agg ys => keqL xs ys
  | x, y => keq1 x y
def kltL : List PV → List PV → Bool
  | .int _ a :: xs, .int _ b :: ys => decide (a < b) || a == b && kltL xs ys
  | _, _ => false
/-- An order of keys (that any is one is not asked for). -/
def klt : PV → PV → Bool
  | .agg xs, .agg ys => kltL xs ys
  | x, y => kltL [x] [y]

def isI64 (x : PV) : Bool := match x with | .int .i64 _ => true | _ => false
theorem isI64_iff {x : PV} : isI64 x = true ↔ ∃ n, x = .int .i64 n := by
  constructor
  · intro h
    unfold isI64 at h
    split at h
    · exact ⟨_, rfl⟩
    · cases h
  · rintro ⟨n, rfl⟩; rfl
theorem keyB_none {x : PV} (h : keyB none x = true) : ∃ n, x = .int .i64 n := by
  unfold keyB at h
  split at h
  · exact ⟨_, rfl⟩
  · rename_i q; cases q
  · cases h
theorem keyB_some {n : Nat} {x : PV} (h : keyB (some n) x = true) : ∃ xs, x = .agg xs ∧ xs.length = n ∧ ∀ y ∈ xs, ∃ a, y = .int .i64 a := by
  unfold keyB at h
  split at h
  · rename_i q; cases q
  · rename_i n' xs q
    cases q
    simp only [Bool.and_eq_true, beq_iff_eq, List.all_eq_true] at h
    refine ⟨xs, rfl, h.1, fun y hy => ?_⟩
    have := h.2 y hy
    split at this
    · exact ⟨_, rfl⟩
    · cases this
  · cases h
theorem kval1_inj {x y : PV} (hx : ∃ a, x = .int .i64 a) (hy : ∃ a, y = .int .i64 a) (h : kval1 x = kval1 y) : x = y := by
  obtain ⟨a, rfl⟩ := hx
  obtain ⟨b, rfl⟩ := hy
  simp only [kval1, Value.int.injEq, true_and] at h
  rw [h]
theorem kval1L_inj : ∀ {xs ys : List PV}, (∀ y ∈ xs, ∃ a, y = .int .i64 a) → (∀ y ∈ ys, ∃ a, y = .int .i64 a) → xs.map kval1 = ys.map kval1 → xs = ys
  | [], [], _, _, _ => rfl
  | [], _ :: _, _, _, h => by simp at h
  | _ :: _, [], _, _, h => by simp at h
  | x :: xs, y :: ys, hx, hy, h => by
    simp only [List.map_cons, List.cons.injEq] at h
    rw [kval1_inj (hx x (by simp)) (hy y (by simp)) h.1, kval1L_inj (fun z hz => hx z (by simp [hz])) (fun z hz => hy z (by simp [hz])) h.2]
theorem kval_inj {kn : Option Nat} {x y : PV} (hx : keyB kn x = true) (hy : keyB kn y = true) (h : kval x = kval y) : x = y := by
  cases kn with
  | none =>
    obtain ⟨a, rfl⟩ := keyB_none hx
    obtain ⟨b, rfl⟩ := keyB_none hy
    exact kval1_inj ⟨a, rfl⟩ ⟨b, rfl⟩ h
  | some n =>
    obtain ⟨xs, rfl, _, h1⟩ := keyB_some hx
    obtain ⟨ys, rfl, _, h2⟩ := keyB_some hy
    simp only [kval, Value.agg.injEq] at h
    have h' : xs.map kval1 = ys.map kval1 := congrArg Array.toList h
    rw [kval1L_inj h1 h2 h']
theorem keqL_iff : ∀ {xs ys : List PV}, (∀ y ∈ xs, ∃ a, y = .int .i64 a) → (∀ y ∈ ys, ∃ a, y = .int .i64 a) → (keqL xs ys = true ↔ xs = ys)
  | [], [], _, _ => by simp [keqL]
  | [], _ :: _, _, _ => by simp [keqL]
  | _ :: _, [], _, _ => by simp [keqL]
  | x :: xs, y :: ys, hx, hy => by
    obtain ⟨a, rfl⟩ := hx x (by simp)
    obtain ⟨b, rfl⟩ := hy y (by simp)
    simp only [keqL, keq1, Bool.and_eq_true, beq_iff_eq, List.cons.injEq, PV.int.injEq, true_and]
    rw [keqL_iff (fun z hz => hx z (by simp [hz])) (fun z hz => hy z (by simp [hz]))]
theorem keq_iff {kn : Option Nat} {x y : PV} (hx : keyB kn x = true) (hy : keyB kn y = true) : keq x y = true ↔ x = y := by
  cases kn with
  | none =>
    obtain ⟨a, rfl⟩ := keyB_none hx
    obtain ⟨b, rfl⟩ := keyB_none hy
    simp [keq, keq1]
  | some n =>
    obtain ⟨xs, rfl, _, h1⟩ := keyB_some hx
    obtain ⟨ys, rfl, _, h2⟩ := keyB_some hy
    simp only [keq, keqL_iff h1 h2, PV.agg.injEq]
theorem rep_kval1L {K : KW} : ∀ {xs : List PV} {l : List Value}, (∀ y ∈ xs, ∃ a, y = .int .i64 a) → RepL K xs l → l = xs.map kval1
  | [], l, _, h => h
  | x :: xs, l, hx, h => by
    obtain ⟨y, ys, rfl, h1, h2⟩ := h
    obtain ⟨a, rfl⟩ := hx x (by simp)
    rw [rep_kval1L (fun z hz => hx z (by simp [hz])) h2]
    simp only [Rep] at h1
    rw [h1]; rfl
theorem rep_kval {K : KW} {kn : Option Nat} {x : PV} {v : Value} (hx : keyB kn x = true) (h : Rep K x v) : v = kval x := by
  cases kn with
  | none => obtain ⟨a, rfl⟩ := keyB_none hx; exact h
  | some n =>
    obtain ⟨xs, rfl, _, h1⟩ := keyB_some hx
    obtain ⟨ys, rfl, h2⟩ := h
    have := rep_kval1L h1 h2
    simp only [kval, ← this]
theorem kvalL_rep {K : KW} : ∀ {xs : List PV}, (∀ y ∈ xs, ∃ a, y = .int .i64 a) → RepL K xs (xs.map kval1)
  | [], _ => rfl
  | x :: xs, hx => by
    obtain ⟨a, rfl⟩ := hx x (by simp)
    exact ⟨_, _, rfl, rfl, kvalL_rep fun z hz => hx z (by simp [hz])⟩
theorem kval_rep {K : KW} {kn : Option Nat} {x : PV} (hx : keyB kn x = true) : Rep K x (kval x) := by
  cases kn with
  | none => obtain ⟨a, rfl⟩ := keyB_none hx; rfl
  | some n =>
    obtain ⟨xs, rfl, _, h1⟩ := keyB_some hx
    exact ⟨_, rfl, by simpa using kvalL_rep h1⟩

/-- A type of keys: numbers, or structs and arrays of n numbers. -/
def keyTy (P : Program) (kt : TypeId) : Option Nat → Bool
  | none => (match P.underlying kt with | some (.int .i64) => true | _ => false)
  | some n => (match P.underlying kt with
    | some (.struct fs) => fs.size == n && !P.stoodInHeld kt && flatFields P (List.replicate n true) fs.toList 0
    | some (.array n' e) => n' == n && hasT P e && !isAggT P e && P.cellsOf e == 1 && (match P.underlying e with | some (.int _) => true | _ => false)
    | _ => false)

section
variable {P : Program}

theorem eqCells_keys : ∀ {xs ys : List PV}, xs.length = ys.length → (∀ y ∈ xs, ∃ a, y = .int .i64 a) → (∀ y ∈ ys, ∃ a, y = .int .i64 a) → eqCells (List.replicate xs.length true) xs ys = some (keqL xs ys)
  | [], [], _, _, _ => rfl
  | [], _ :: _, h, _, _ => by simp at h
  | _ :: _, [], h, _, _ => by simp at h
  | x :: xs, y :: ys, h, hx, hy => by
    obtain ⟨a, rfl⟩ := hx x (by simp)
    obtain ⟨b, rfl⟩ := hy y (by simp)
    simp only [List.length_cons, List.replicate_succ, eqCells, if_true, eqCells_keys (by simpa using h) (fun z hz => hx z (by simp [hz])) (fun z hz => hy z (by simp [hz])), Option.map_some, keqL, keq1]
theorem kval1_int {x : PV} (h : ∃ a, x = .int .i64 a) : ∃ a, x = .int .i64 a ∧ kval1 x = .int .i64 a := by
  obtain ⟨a, rfl⟩ := h; exact ⟨a, rfl, rfl⟩
theorem run_part_at {e : TypeId} (he : hasT P e = true) (hA : isAggT P e = false) {cs : Array Value} {i : Nat} {v : Value} (h : cs[i]? = some v) (w : World) : (part e cs i).run P w = .ok v w := by
  have hr := run_part (P := P) (K := ⟨w, fun _ => False, fun _ => False, fun _ _ => none⟩) (t := e) he (xs := cs.toList.map fun _ => PV.undef) (cs := cs) (RepL.of (by simp) (fun i x v hx hv => by
    simp at hx
    obtain ⟨_, rfl⟩ := hx
    trivial)) (n := none) (by rw [hA]; rfl) (off := i) (r := .undef) (by
      simp only [cutV, List.getElem?_map]
      have : cs.toList[i]? = some v := by simpa using h
      rw [this]; rfl)
  obtain ⟨u, hu, _⟩ := hr
  have : ∃ u', (part e cs i).run P w = .ok u' w := ⟨u, hu⟩
  unfold part at hu ⊢
  simp only [Sem.run_bind, run_isAgg he, hA, Result.andThen_ok, Bool.false_eq_true, if_false, h] at hu ⊢
  simp
theorem run_eqItems_keys (d : Nat) {e : TypeId} (he : hasT P e = true) (hA : isAggT P e = false) {q : IntKind} (hu : P.underlying e = some (.int q)) (w : World) : ∀ (xs ys : List PV) (j : Nat) (X Y : Array Value), xs.length = ys.length →
    (∀ y ∈ xs, ∃ a, y = .int .i64 a) → (∀ y ∈ ys, ∃ a, y = .int .i64 a) → X.toList.drop j = xs.map kval1 → Y.toList.drop j = ys.map kval1 →
    (Op.eqItems (d + 1) e 1 X Y (List.range' j xs.length)).run P w = .ok (keqL xs ys) w
  | [], [], j, X, Y, _, _, _, _, _ => by simp [Op.eqItems, keqL]
  | [], _ :: _, _, _, _, h, _, _, _, _ => by simp at h
  | _ :: _, [], _, _, _, h, _, _, _, _ => by simp at h
  | x :: xs, y :: ys, j, X, Y, hl, hx, hy, hX, hY => by
    obtain ⟨a, rfl, ha⟩ := kval1_int (hx x (by simp))
    obtain ⟨b, rfl, hb⟩ := kval1_int (hy y (by simp))
    have hXj : X[j]? = some (.int .i64 a) := by
      have : (X.toList.drop j)[0]? = some (.int .i64 a) := by rw [hX]; simp [ha]
      simpa using this
    have hYj : Y[j]? = some (.int .i64 b) := by
      have : (Y.toList.drop j)[0]? = some (.int .i64 b) := by rw [hY]; simp [hb]
      simpa using this
    have hX' : X.toList.drop (j + 1) = xs.map kval1 := by
      have : (X.toList.drop j).drop 1 = xs.map kval1 := by rw [hX]; simp
      simpa using this
    have hY' : Y.toList.drop (j + 1) = ys.map kval1 := by
      have : (Y.toList.drop j).drop 1 = ys.map kval1 := by rw [hY]; simp
      simpa using this
    have ih := run_eqItems_keys d he hA hu w xs ys (j + 1) X Y (by simpa using hl) (fun z hz => hx z (by simp [hz])) (fun z hz => hy z (by simp [hz])) hX' hY'
    simp only [List.length_cons, List.range'_succ, Op.eqItems, Sem.run_bind, Nat.mul_one, run_part_at he hA hXj, run_part_at he hA hYj, Result.andThen_ok, run_equalIn_int _ _ _ _ _ _ _ hu]
    simp only [keqL, keq1]
    cases hab : (a == b)
    · simp
    · simpa using ih

theorem run_equal_key {kt : TypeId} {n : Nat} (hk : keyTy P kt (some n) = true) {x y : PV} (hx : keyB (some n) x = true) (hy : keyB (some n) y = true) (w : World) :
    (Op.equal kt (kval x) (kval y)).run P w = .ok (keq x y) w := by
  obtain ⟨xs, rfl, hlx, h1⟩ := keyB_some hx
  obtain ⟨ys, rfl, hly, h2⟩ := keyB_some hy
  simp only [keq, kval, Op.equal, Op.maxDepth]
  unfold keyTy at hk
  simp only at hk
  split at hk
  · rename_i fs hu
    simp only [Bool.and_eq_true, beq_iff_eq, Bool.not_eq_true'] at hk
    obtain ⟨⟨hn, hst⟩, hf⟩ := hk
    have hfs : P.fieldsOf kt = fs := by simp [Program.fieldsOf, hu]
    rw [show (10000 : Nat) = 9999 + 1 from rfl, run_equalIn_struct w _ _ _ _ (by rw [hfs]; exact hu) hst, hfs]
    have key := run_eqCells (P := P) (K := ⟨w, fun _ => False, fun _ => False, fun _ _ => none⟩) 9998 (List.replicate n true) fs.toList 0 xs ys (xs.map kval1).toArray (ys.map kval1).toArray (keqL xs ys) hf
      (by simpa using kvalL_rep h1) (by simpa using kvalL_rep h2) (by rw [← hlx]; exact eqCells_keys (hlx.trans hly.symm) h1 h2)
    exact key
  · rename_i n' e hu
    simp only [Bool.and_eq_true, beq_iff_eq, Bool.not_eq_true'] at hk
    obtain ⟨⟨⟨⟨rfl, he⟩, hA⟩, hc⟩, hi⟩ := hk
    have hinfo : ∃ i, P.info? e = some i := by
      unfold hasT at he
      simp only [Bool.and_eq_true, Option.isSome_iff_exists] at he
      exact he.2
    obtain ⟨i, hinf⟩ := hinfo
    split at hi
    case h_2 => cases hi
    rename_i q huq
    rw [show (10000 : Nat) = 9999 + 1 from rfl, run_equalIn_array w _ _ _ hu hinf, hc, List.range_eq_range', ← hlx]
    exact run_eqItems_keys 9998 he hA huq w xs ys 0 _ _ (hlx.trans hly.symm) h1 h2 (by simp) (by simp)
  · cases hk

theorem run_findAsking_key {kt : TypeId} {n : Nat} (hk : keyTy P kt (some n) = true) {x : PV} (hx : keyB (some n) x = true) (w : World) : ∀ (es : List MapEntry) (i : Nat), (∀ e ∈ es, ∃ y, keyB (some n) y = true ∧ e.key = kval y) →
    ((Instr.findAsking kt (kval x) es i).run P w = .ok none w ∧ ∀ e ∈ es, e.key ≠ kval x) ∨
    ∃ j e, (Instr.findAsking kt (kval x) es i).run P w = .ok (some (i + j, e.val)) w ∧ es[j]? = some e ∧ e.key = kval x
  | [], i, _ => .inl ⟨by simp [Instr.findAsking], by simp⟩
  | e :: es, i, h => by
    obtain ⟨y, hy, he⟩ := h e (by simp)
    have hq := run_equal_key hk hx hy w
    simp only [Instr.findAsking, Sem.run_bind, he, hq, Result.andThen_ok]
    cases hb : keq x y
    · have hne : kval y ≠ kval x := fun q => by
        have := kval_inj hy hx q
        subst this
        rw [(keq_iff hx hx).2 rfl] at hb; cases hb
      simp only [Bool.false_eq_true, if_false]
      rcases run_findAsking_key hk hx w es (i + 1) (fun z hz => h z (by simp [hz])) with ⟨h1, h2⟩ | ⟨j, e', h1, h2, h3⟩
      · exact .inl ⟨h1, fun z hz => by
          rcases List.mem_cons.1 hz with rfl | hz
          · rw [he]; exact hne
          · exact h2 z hz⟩
      · exact .inr ⟨j + 1, e', by rw [h1, show i + 1 + j = i + (j + 1) from by omega], by simpa using h2, h3⟩
    · have := (keq_iff hx hy).1 hb
      subst this
      exact .inr ⟨0, e, by simp, rfl, he⟩

/-- A key is found where it is. -/
theorem run_findKey_pv {kt : TypeId} {kn : Option Nat} (hk : keyTy P kt kn = true) {x : PV} (hx : keyB kn x = true) (w : World) (es : List MapEntry) (hes : ∀ e ∈ es, ∃ y, keyB kn y = true ∧ e.key = kval y) :
    ((Instr.findKey kt (kval x) es).run P w = .ok none w ∧ ∀ e ∈ es, e.key ≠ kval x) ∨
    ∃ j e, (Instr.findKey kt (kval x) es).run P w = .ok (some (j, e.val)) w ∧ es[j]? = some e ∧ e.key = kval x := by
  cases kn with
  | none =>
    have hu : P.underlying kt = some (.int .i64) := by
      unfold keyTy at hk
      simp only at hk
      split at hk
      · assumption
      · cases hk
    obtain ⟨a, rfl⟩ := keyB_none hx
    rcases MapKept.findNow_spec (d := .int .i64) (k := kval (.int .i64 a)) rfl es 0 (fun e he => by
      obtain ⟨y, hy, hq⟩ := hes e he
      obtain ⟨b, rfl⟩ := keyB_none hy
      rw [hq]; rfl) with ⟨h1, h2⟩ | ⟨j, e, h1, h2, h3⟩
    · exact .inl ⟨MapKept.run_findKey hu h1, h2⟩
    · exact .inr ⟨j, e, by rw [Nat.zero_add] at h1; exact MapKept.run_findKey hu h1, h2, h3⟩
  | some n =>
    have hw : (match P.underlying kt with | some (.array _ _) | some (.struct _) => true | _ => false) = true := by
      unfold keyTy at hk
      simp only at hk
      split at hk
      · rename_i fs hu; rw [hu]
      · rename_i n' e hu; rw [hu]
      · cases hk
    rw [run_findKey_eq w hw]
    rcases run_findAsking_key hk hx w es 0 hes with h | ⟨j, e, h1, h2⟩
    · exact .inl h
    · exact .inr ⟨j, e, by rw [Nat.zero_add] at h1; exact h1, h2⟩

theorem flatFields_mem : ∀ {ks : List Bool} {fs : List Field} {j : Nat}, flatFields P ks fs j = true → ∀ (i : Nat) (f : Field), fs[i]? = some f → f.name ≠ "_" ∧ f.offset = j + i ∧ hasT P f.type = true ∧ isAggT P f.type = false ∧ ((∃ q, P.underlying f.type = some (.int q)) ∨ P.underlying f.type = some .bool)
  | [], [], _, _, i, f, hi => by simp at hi
  | [], _ :: _, _, h, _, _, _ => by simp [flatFields] at h
  | _ :: _, [], _, h, _, _, _ => by simp [flatFields] at h
  | k :: ks, f0 :: fs, j, h, i, f, hi => by
    simp only [flatFields, Bool.and_eq_true, bne_iff_ne, ne_eq, beq_iff_eq, Bool.not_eq_true'] at h
    obtain ⟨⟨⟨⟨⟨h1, h2⟩, h3⟩, h4⟩, h5⟩, h6⟩ := h
    cases i with
    | zero =>
      simp at hi
      subst hi
      refine ⟨h1, h2, h3, h4, ?_⟩
      split at h5
      · exact .inl ⟨_, by assumption⟩
      · exact .inr (by assumption)
      · cases h5
    | succ i =>
      simp at hi
      obtain ⟨a, b, c⟩ := flatFields_mem h6 i f hi
      exact ⟨a, by omega, c⟩
theorem run_checkKey_int {em : Bool} {t : TypeId} {d : TypeDesc} (hu : P.underlying t = some d) (hd : (∃ q, d = .int q) ∨ d = .bool) {a : Int} (n : Nat) (w : World) : (Instr.checkKey em (n + 1) t (.int .i64 a)).run P w = .ok () w := by
  unfold Instr.checkKey
  simp only [Sem.run_bind, run_underlying hu, Result.andThen_ok]
  rcases hd with ⟨q, rfl⟩ | rfl <;> simp
theorem run_checkKey_pv {kt : TypeId} {kn : Option Nat} (hk : keyTy P kt kn = true) {x : PV} (hx : keyB kn x = true) (em : Bool) (w : World) : (Instr.checkKey em 10000 kt (kval x)).run P w = .ok () w := by
  cases kn with
  | none =>
    have hu : P.underlying kt = some (.int .i64) := by
      unfold keyTy at hk
      simp only at hk
      split at hk
      · assumption
      · cases hk
    obtain ⟨a, rfl⟩ := keyB_none hx
    exact run_checkKey_int hu (.inl ⟨_, rfl⟩) 9999 w
  | some n =>
    obtain ⟨xs, rfl, hl, h1⟩ := keyB_some hx
    unfold keyTy at hk
    simp only at hk
    simp only [kval]
    split at hk
    · rename_i fs hu
      simp only [Bool.and_eq_true, beq_iff_eq, Bool.not_eq_true'] at hk
      obtain ⟨⟨hn, hst⟩, hf⟩ := hk
      rw [show (10000 : Nat) = 9998 + 1 + 1 from rfl, Instr.checkKey]
      simp only [Sem.run_bind, run_underlying hu, Result.andThen_ok]
      rw [← Array.forIn_toList]
      have each : ∀ f ∈ fs.toList, f.name ≠ "_" ∧ ∃ v, (part f.type (xs.map kval1).toArray f.offset).run P w = .ok v w ∧ (Instr.checkKey em (9998 + 1) f.type v).run P w = .ok () w := by
        intro f hfm
        obtain ⟨i, hi, rfl⟩ := List.getElem_of_mem hfm
        obtain ⟨q1, q2, q3, q4, q5⟩ := flatFields_mem hf i _ (List.getElem?_eq_getElem hi)
        have hil : i < xs.length := by simp at hi; omega
        obtain ⟨a, e1, e2⟩ := kval1_int (h1 _ (List.getElem_mem hil))
        refine ⟨q1, .int .i64 a, run_part_at q3 q4 ?_ w, ?_⟩
        · rw [q2, Nat.zero_add]
          simp [hil, e2]
        · rcases q5 with ⟨q, hq⟩ | hq
          · exact run_checkKey_int hq (.inl ⟨_, rfl⟩) 9998 w
          · exact run_checkKey_int hq (.inr rfl) 9998 w
      generalize fs.toList = L at each
      induction L with
      | nil => simp
      | cons f L ih =>
        obtain ⟨q1, v, p1, p2⟩ := each f (by simp)
        simp only [List.forIn_cons, Sem.run_bind, q1, ne_eq, not_false_eq_true, if_true, Result.andThen_ok, p1, p2, Sem.run_pure]
        exact ih (fun y hy => each y (by simp [hy]))
    · rename_i n' e hu
      simp only [Bool.and_eq_true, beq_iff_eq, Bool.not_eq_true'] at hk
      obtain ⟨⟨⟨⟨rfl, he⟩, hA⟩, hc⟩, hi⟩ := hk
      have hinfo : ∃ i, P.info? e = some i := by
        unfold hasT at he
        simp only [Bool.and_eq_true, Option.isSome_iff_exists] at he
        exact he.2
      obtain ⟨i, hinf⟩ := hinfo
      split at hi
      case h_2 => cases hi
      rename_i q huq
      rw [show (10000 : Nat) = 9998 + 1 + 1 from rfl, Instr.checkKey]
      simp only [Sem.run_bind, run_underlying hu, Result.andThen_ok]
      simp only [Std.Legacy.Range.forIn_eq_forIn_range', Std.Legacy.Range.size, Nat.sub_zero, Nat.add_one_sub_one, Nat.div_one]
      have each : ∀ j ∈ List.range' 0 n', ∃ v, (part e (xs.map kval1).toArray (j * P.cellsOf e)).run P w = .ok v w ∧ (Instr.checkKey em (9998 + 1) e v).run P w = .ok () w := by
        intro j hj
        have hj' : j < xs.length := by
          have := List.mem_range'.1 hj
          omega
        obtain ⟨a, e1, e2⟩ := kval1_int (h1 _ (List.getElem_mem hj'))
        refine ⟨.int .i64 a, run_part_at he hA ?_ w, run_checkKey_int huq (.inl ⟨_, rfl⟩) 9998 w⟩
        rw [hc, Nat.mul_one]
        simp [hj', e2]
      generalize List.range' 0 n' = is at each
      induction is with
      | nil => simp
      | cons j is ih =>
        obtain ⟨v, p1, p2⟩ := each j (by simp)
        simp only [List.forIn_cons, Sem.run_bind, run_sizeOf he w, Result.andThen_ok, p1, p2, Sem.run_pure]
        exact ih (fun y hy => each y (by simp [hy]))
    · cases hk

theorem sameBits_refl : ∀ {kn : Option Nat} {x : PV}, keyB kn x = true → Instr.sameBits 10000 (kval x) (kval x) = true
  | none, x, h => by
    obtain ⟨a, rfl⟩ := keyB_none h
    simp [kval, kval1, Instr.sameBits]
  | some n, x, h => by
    obtain ⟨xs, rfl, _, h1⟩ := keyB_some h
    simp only [kval, Instr.sameBits, beq_self_eq_true, Bool.true_and, List.all_eq_true]
    intro p hp
    obtain ⟨i, hi, rfl⟩ := List.getElem_of_mem hp
    simp only [List.length_zip, Nat.min_self] at hi
    rw [List.getElem_zip]
    have : ∃ y ∈ xs, (xs.map kval1).toArray.toList[i]'hi = kval1 y := by
      simp at hi ⊢
      exact ⟨xs[i], List.getElem_mem _, rfl⟩
    obtain ⟨y, hy, e⟩ := this
    obtain ⟨a, rfl, e2⟩ := kval1_int (h1 y hy)
    simp only [e, e2]
    simp [Instr.sameBits]
theorem run_keyStays {kn : Option Nat} {x : PV} (h : keyB kn x = true) (w : World) : (Instr.keyThatStays (kval x) (kval x)).run P w = .ok (kval x) w := by
  simp [Instr.keyThatStays, sameBits_refl h]
end

/-! ### What a map holds -/
/-- The place of a key. -/
def mix : List PV → PV → Option Nat
  | [], _ => none
  | y :: ks, x => if keq x y then some 0 else (mix ks x).map (· + 1)
def mpos : List PV → PV → Nat
  | [], _ => 0
  | y :: ks, x => if klt y x then mpos ks x + 1 else 0
def mfind (m : Mp) (x : PV) : Option PV := (mix m.ks x).bind fun j => m.vs[j]?
def mput (m : Mp) (x v : PV) : Mp :=
  match mix m.ks x with
  | some j => ⟨m.kn, m.ks, m.vs.set j v⟩
  | none => ⟨m.kn, m.ks.take (mpos m.ks x) ++ x :: m.ks.drop (mpos m.ks x), m.vs.take (mpos m.ks x) ++ v :: m.vs.drop (mpos m.ks x)⟩
/-- The map that a value names. -/
def mapOf (kn : Option Nat) (m : PV) (H : Hp) : Option Mp :=
  match m with
  | .nilmap => some ⟨kn, [], []⟩
  | .fmap _ kn' ks vs => if kn' = kn then some ⟨kn, ks, vs⟩ else none
  | .mmap b => match H[b]? with
    | some B => (match B.mp with | some mm => if B.gen = 0 ∧ mm.kn = kn then some mm else none | none => none)
    | none => none
  | _ => none
def evMlk (kn : Option Nat) (z : PV) (cok : Bool) (m x : PV) (H : Hp) : Option PV :=
  if keyB kn x then (mapOf kn m H).map fun mm => let r := mfind mm x; if cok then .tup [r.getD z, .bool r.isSome] else r.getD z else none
def evMln (kn : Option Nat) (m : PV) (H : Hp) : Option PV := (mapOf kn m H).map fun mm => .int .i64 mm.ks.length
def evMkm (kn : Option Nat) (H : Hp) : PV × Hp := (.mmap H.length, H ++ [⟨0, 0, [], some ⟨kn, [], []⟩⟩])
def mapAt (kn : Option Nat) (m : PV) (H : Hp) : Option (Nat × Mp) :=
  match m with
  | .mmap b => (mapOf kn (.mmap b) H).map fun mm => (b, mm)
  | _ => none
def setMp (H : Hp) (b : Nat) (mm : Mp) : Hp := H.set b ⟨0, 0, [], some mm⟩
def evMup (kn : Option Nat) (m x v : PV) (H : Hp) : Option Hp :=
  if keyB kn x then (mapAt kn m H).map fun q => setMp H q.1 (mput q.2 x v) else none
def evMpe (kn : Option Nat) (z : PV) (m x : PV) (H : Hp) : Option (PV × Hp) :=
  if keyB kn x then (mapAt kn m H).map fun q => match mfind q.2 x with
    | some v => (.tup [v, .stp q.1 x], H)
    | none => (.tup [z, .stp q.1 x], setMp H q.1 (mput q.2 x z)) else none
def evEst (kn : Option Nat) (m s v : PV) (H : Hp) : Option Hp :=
  match s with
  | .stp b' x => if keyB kn x then (mapAt kn m H).bind fun q => if q.1 = b' ∧ (mix q.2.ks x).isSome then some (setMp H q.1 (mput q.2 x v)) else none else none
  | _ => none

theorem mix_some {kn : Option Nat} {x : PV} (hx : keyB kn x = true) : ∀ {ks : List PV} {j : Nat}, (∀ k ∈ ks, keyB kn k = true) → mix ks x = some j → ks[j]? = some x
  | [], j, _, h => by simp [mix] at h
  | y :: ks, j, hk, h => by
    unfold mix at h
    split at h
    · rename_i hq
      simp only [Option.some.injEq] at h
      subst h
      rw [(keq_iff hx (hk y (by simp))).1 hq]; rfl
    · simp only [Option.map_eq_some_iff] at h
      obtain ⟨i, hi, rfl⟩ := h
      simpa using mix_some hx (fun k hk' => hk k (by simp [hk'])) hi
theorem mix_none {kn : Option Nat} {x : PV} (hx : keyB kn x = true) : ∀ {ks : List PV}, (∀ k ∈ ks, keyB kn k = true) → mix ks x = none → x ∉ ks
  | [], _, _ => by simp
  | y :: ks, hk, h => by
    unfold mix at h
    split at h
    · cases h
    · rename_i hq
      simp only [Option.map_eq_none_iff] at h
      intro hm
      rcases List.mem_cons.1 hm with rfl | hm
      · exact hq ((keq_iff hx hx).2 rfl)
      · exact mix_none hx (fun k hk' => hk k (by simp [hk'])) h hm

section
variable {K : KW}
/-- Entries, in the order of the keys. -/
theorem MapIs.look {m : Mp} {es : Array MapEntry} {clock : Nat} (h : MapIs K m es clock) {x : PV} (hx : keyB m.kn x = true) :
    (mix m.ks x = none ∧ ∀ e ∈ es.toList, e.key ≠ kval x) ∨ ∃ j y, mix m.ks x = some j ∧ m.vs[j]? = some y ∧ ∀ e ∈ es.toList, e.key = kval x → Rep K y e.val := by
  obtain ⟨hk, hst, es', hp, hks, hvs⟩ := h
  have hnd : (es'.map (·.key)).Nodup := (hp.map (·.key)).nodup_iff.1 hst.2.2
  cases hm : mix m.ks x with
  | none =>
    refine .inl ⟨rfl, fun e he hq => mix_none hx hk hm ?_⟩
    have : e.key ∈ m.ks.map kval := by rw [← hks]; exact List.mem_map.2 ⟨e, hp.mem_iff.1 he, rfl⟩
    obtain ⟨k, hk', e'⟩ := List.mem_map.1 this
    rw [kval_inj hx (hk k hk') (hq.symm.trans e'.symm)]; exact hk'
  | some j =>
    have hj := mix_some hx hk hm
    have hlen : m.ks.length = es'.length := by have := congrArg List.length hks; simpa using this.symm
    have hlen2 : m.vs.length = es'.length := by have := hvs.length; simpa using this
    have hjl : j < m.ks.length := (List.getElem?_eq_some_iff.1 hj).1
    have hy : m.vs[j]? = some m.vs[j] := List.getElem?_eq_getElem (by omega)
    refine .inr ⟨j, m.vs[j], rfl, hy, fun e he hq => ?_⟩
    obtain ⟨i, hi, rfl⟩ := List.getElem_of_mem (hp.mem_iff.1 he)
    have e1 : (es'.map (·.key))[j]? = some (kval x) := by rw [hks, List.getElem?_map, hj]; rfl
    have e2 : (es'.map (·.key))[i]? = some (kval x) := by rw [List.getElem?_map, List.getElem?_eq_getElem hi]; simp [hq]
    have hij : i = j := by
      exact (List.getElem?_inj (by simpa using hi) hnd).1 (e2.trans e1.symm)
    subst hij
    obtain ⟨v, hv, hr⟩ := hvs.get i _ hy
    rw [List.getElem?_map, List.getElem?_eq_getElem hi] at hv
    simp at hv
    rw [hv]; exact hr

open Classical in
/-- Another value at a key that is there. -/
theorem MapIs.upd {m : Mp} {es : Array MapEntry} {clock : Nat} (h : MapIs K m es clock) {x : PV} (hx : keyB m.kn x = true) {j : Nat} (hj : mix m.ks x = some j) {v : PV} {rv : Value} (hv : Rep K v rv)
    {es2 : Array MapEntry} {i0 : Nat} {e0 : MapEntry} (hi0 : es.toList[i0]? = some e0) (hk0 : e0.key = kval x) (hes2 : es2.toList = es.toList.set i0 { e0 with val := rv }) : MapIs K (mput m x v) es2 clock := by
  obtain ⟨hk, hst, es', hp, hks, hvs⟩ := h
  have hnd : (es'.map (·.key)).Nodup := (hp.map (·.key)).nodup_iff.1 hst.2.2
  have hjx := mix_some hx hk hj
  have hjl : j < m.ks.length := (List.getElem?_eq_some_iff.1 hjx).1
  have hlen : m.ks.length = es'.length := by have := congrArg List.length hks; simpa using this.symm
  simp only [mput, hj]
  have hes : es2.toList = es.toList.map fun e : MapEntry => if e.key = kval x then { e with val := rv } else e := by
    rw [hes2]
    apply List.ext_getElem?
    intro i
    have hi0l := (List.getElem?_eq_some_iff.1 hi0).1
    rw [List.getElem?_set, List.getElem?_map]
    split
    · rename_i q
      subst q
      simp only [hi0l, if_true, hi0, Option.map_some, hk0]
    · rename_i q
      cases hi : es.toList[i]? with
      | none => rfl
      | some e =>
        simp only [Option.map_some, Option.some.injEq]
        rw [if_neg]
        intro hq
        have e1 : (es.toList.map (·.key))[i0]? = some (kval x) := by rw [List.getElem?_map, hi0]; simp [hk0]
        have e2 : (es.toList.map (·.key))[i]? = some (kval x) := by rw [List.getElem?_map, hi]; simp [hq]
        exact q ((List.getElem?_inj (by simpa using hi0l) hst.2.2).1 (e1.trans e2.symm))
  let f : MapEntry → MapEntry := fun e => if e.key = kval x then { e with val := rv } else e
  have fk : ∀ e : MapEntry, (f e).key = e.key := fun e => by simp only [f]; split <;> rfl
  have fb : ∀ e : MapEntry, (f e).born = e.born := fun e => by simp only [f]; split <;> rfl
  refine ⟨hk, ⟨?_, ?_, ?_⟩, es'.map f, ?_, ?_, ?_⟩
  · intro e he
    rw [hes] at he
    obtain ⟨e', he', rfl⟩ := List.mem_map.1 he
    have : (f e').born = e'.born := fb e'
    show (f e').born < clock
    rw [this]; exact hst.1 e' he'
  · rw [hes, List.map_map]
    have : (fun e : MapEntry => e.born) ∘ f = fun e => e.born := funext fb
    show (List.map ((fun e : MapEntry => e.born) ∘ f) es.toList).Nodup
    rw [this]; exact hst.2.1
  · rw [hes, List.map_map]
    have : (fun e : MapEntry => e.key) ∘ f = fun e => e.key := funext fk
    show (List.map ((fun e : MapEntry => e.key) ∘ f) es.toList).Nodup
    rw [this]; exact hst.2.2
  · rw [hes]; exact hp.map f
  · rw [List.map_map]
    have : (fun e : MapEntry => e.key) ∘ f = fun e => e.key := funext fk
    rw [this]; exact hks
  · have hset : (es'.map f).map (·.val) = (es'.map (·.val)).set j rv := by
      apply List.ext_getElem?
      intro i
      simp only [List.getElem?_map, List.getElem?_set]
      have e1 : (es'.map (·.key))[j]? = some (kval x) := by rw [hks, List.getElem?_map, hjx]; rfl
      by_cases hij : j = i
      · subst hij
        rw [if_pos rfl]
        have hjl' : j < es'.length := by omega
        simp only [List.getElem?_eq_getElem hjl', Option.map_some, List.length_map, hjl', if_true, Option.some.injEq]
        have : es'[j].key = kval x := by
          rw [List.getElem?_map, List.getElem?_eq_getElem hjl'] at e1; simpa using e1
        simp only [f, this, if_true]
      · rw [if_neg hij]
        cases hi : es'[i]? with
        | none => rfl
        | some e =>
          simp only [Option.map_some, Option.some.injEq]
          have hne : e.key ≠ kval x := by
            intro q
            have e2 : (es'.map (·.key))[i]? = some (kval x) := by rw [List.getElem?_map, hi]; simp [q]
            have := (List.getElem?_inj (by simpa using (List.getElem?_eq_some_iff.1 hi).1) hnd).1 (e2.trans e1.symm)
            exact hij this.symm
          simp only [f, hne, if_false]
    rw [hset]
    exact hvs.set j hv

/-- A key that was not there. -/
theorem MapIs.ins {m : Mp} {es : Array MapEntry} {clock : Nat} (h : MapIs K m es clock) {x : PV} (hx : keyB m.kn x = true) (hj : mix m.ks x = none) {v : PV} {rv : Value} (hv : Rep K v rv) :
    MapIs K (mput m x v) (es.push { key := kval x, val := rv, born := clock }) (clock + 1) := by
  have hno : ∀ e ∈ es.toList, e.key ≠ kval x := by
    rcases h.look hx with ⟨_, h⟩ | ⟨j, y, h, _⟩
    · exact h
    · rw [hj] at h; cases h
  obtain ⟨hk, hst, es', hp, hks, hvs⟩ := h
  simp only [mput, hj]
  generalize mpos m.ks x = p
  refine ⟨?_, MapKept.stamped_push hst hno, es'.take p ++ { key := kval x, val := rv, born := clock } :: es'.drop p, ?_, ?_, ?_⟩
  · intro k hk'
    rcases List.mem_append.1 hk' with q | q
    · exact hk k (List.mem_of_mem_take q)
    · rcases List.mem_cons.1 q with rfl | q
      · exact hx
      · exact hk k (List.mem_of_mem_drop q)
  · rw [Array.toList_push]
    refine (List.perm_append_comm).trans ?_
    refine List.Perm.trans ?_ List.perm_middle.symm
    simp only [List.singleton_append, List.take_append_drop]
    exact hp.cons _
  · simp only [List.map_append, List.map_cons, List.map_take, List.map_drop, hks]
  · simp only [List.map_append, List.map_cons, List.map_take, List.map_drop]
    exact (hvs.take p).append ⟨_, _, rfl, hv, hvs.drop p⟩
end

/-! ### The small heap -/
def KW.withMp (K : KW) (H : Hp) : KW := ⟨K.w.alloc (.map #[] 0), K.Z, K.Y, muSet K.μ H.length 0 (K.w.heap.size, 0)⟩
theorem KW.withMp_le (K : KW) (H : Hp) (hH : HRel K H) : K.Le (K.withMp H) := by
  refine ⟨rfl, rfl, rfl, by simp [KW.withMp], fun g hg => heap_alloc_old _ _ _ (hH.lt g hg), fun g hg => hg, fun g hg => hg, fun b n p hp => ?_, MapsKeep.of_same fun g _ _ hg => heap_alloc_old _ _ _ (Array.getElem?_eq_some_iff.1 hg).1⟩
  have hf : K.μ H.length 0 = none := hH.fresh _ _ (fun B hB => by simp at hB)
  refine (muSet_other _ _ _ _ _ _ ?_).trans hp
  rintro ⟨rfl, rfl⟩
  rw [hf] at hp; cases hp
theorem HRel.withMp {K : KW} {H : Hp} (hH : HRel K H) (kn : Option Nat) : HRel (K.withMp H) (H ++ [⟨0, 0, [], some ⟨kn, [], []⟩⟩]) ∧ Ext K H (K.withMp H) (H ++ [⟨0, 0, [], some ⟨kn, [], []⟩⟩]) := by
  have hle := KW.withMp_le K H hH
  have hnew : (K.withMp H).μ H.length 0 = some (K.w.heap.size, 0) := muSet_same _ _ _ _
  have hold : ∀ b B, H[b]? = some B → (K.withMp H).μ b B.gen = K.μ b B.gen := fun b B hb => muSet_other _ _ _ _ _ _ (by
    rintro ⟨rfl, _⟩; simp at hb)
  have hget : ∀ b B, (H ++ [(⟨0, 0, [], some ⟨kn, [], []⟩⟩ : Blk)])[b]? = some B → H[b]? = some B ∨ (b = H.length ∧ B = ⟨0, 0, [], some ⟨kn, [], []⟩⟩) := by
    intro b B hb
    rw [List.getElem?_append] at hb
    split at hb
    · exact .inl hb
    · rename_i hlt
      right
      have : b - H.length = 0 := by
        cases hq : b - H.length with
        | zero => rfl
        | succ n => rw [hq] at hb; simp at hb
      rw [this] at hb
      simp at hb
      exact ⟨by omega, hb.symm⟩
  refine ⟨⟨?_, ?_, ?_, ?_⟩, hle, fun g hg _ => heap_alloc_old _ _ _ hg, ?_, fun _ h => .inl h, fun _ h => h⟩
  · intro b B hb
    rcases hget b B hb with hb | ⟨rfl, rfl⟩
    · rw [hold b B hb]
      rcases hH.blk b B hb with h | ⟨m, g, es, cl, hx, hp, hg0, hm, hh, hz, hy, hmp⟩ | ⟨g, cur, hp, hm, hh, hz, hy, hl', hr, h1'⟩
      · exact .inl h
      · exact .inr (.inl ⟨m, g, es, cl, hx, hp, hg0, hm, (heap_alloc_old _ _ _ (Array.getElem?_eq_some_iff.1 hh).1).trans hh, hz, hy, hmp.mono hle⟩)
      · exact .inr (.inr ⟨g, cur, hp, hm, (heap_alloc_old _ _ _ (Array.getElem?_eq_some_iff.1 hh).1).trans hh, hz, hy, hl', hr.mono hle, h1'⟩)
    · refine .inr <| .inl ⟨⟨kn, [], []⟩, K.w.heap.size, #[], 0, rfl, rfl, rfl, hnew, heap_alloc_new _ _, fun q => ?_, fun q => ?_, by simp, MapKept.stamped_empty 0, [], by simp, rfl, rfl⟩
      · have := hH.lt _ (.inl q); omega
      · have := hH.lt _ (.inr q); omega
  · intro b b' B B' g n n' hb hb' hm hm'
    rcases hget b B hb with hb | ⟨rfl, rfl⟩ <;> rcases hget b' B' hb' with hb' | ⟨rfl, rfl⟩
    · rw [hold b B hb] at hm
      rw [hold b' B' hb'] at hm'
      exact hH.inj b b' B B' g n n' hb hb' hm hm'
    · rw [hold b B hb] at hm
      rw [hnew] at hm'
      simp at hm'
      have := hH.live_lt ⟨b, B, n, hb, hm⟩
      omega
    · rw [hold b' B' hb'] at hm'
      rw [hnew] at hm
      simp at hm
      have := hH.live_lt ⟨b', B', n', hb', hm'⟩
      omega
    · rfl
  · intro b gen hg
    refine (muSet_other _ _ _ _ _ _ ?_).trans (hH.fresh b gen (fun B hB => hg B ?_))
    · rintro ⟨rfl, rfl⟩
      have := hg ⟨0, 0, [], some ⟨kn, [], []⟩⟩ (by simp)
      simp at this
    · rw [List.getElem?_append_left (List.getElem?_eq_some_iff.1 hB).1]; exact hB
  · intro g hg
    have := hH.lt g hg
    simp only [KW.withMp, World.size_alloc]
    omega
  · rintro g ⟨b, B, n, hb, hm⟩
    rcases hget b B hb with hb | ⟨rfl, rfl⟩
    · rw [hold b B hb] at hm
      exact .inl ⟨b, B, n, hb, hm⟩
    · rw [hnew] at hm
      simp at hm
      exact .inr (by omega)

/-- Another content of a map. -/
def KW.setM (K : KW) (g : Nat) (es : Array MapEntry) (clock : Nat) : KW := ⟨{ K.w with heap := K.w.heap.setIfInBounds g (.map es clock) }, K.Z, K.Y, K.μ⟩
theorem KW.setM_le {K : KW} {H : Hp} (hH : HRel K H) {b : Nat} {B : Blk} (hb : H[b]? = some B) {g n : Nat} (hm : K.μ b B.gen = some (g, n)) {es : Array MapEntry} {clock : Nat} (hh : K.w.heap[g]? = some (.map es clock))
    {es' : Array MapEntry} (clock' : Nat) (hk : ∀ e ∈ es.toList, ∃ e' ∈ es'.toList, e'.born = e.born ∧ e'.key = e.key) : K.Le (K.setM g es' clock') := by
  have hs := MapKept.heap_set (o' := .map es' clock') hh
  have hlive : Live K H g := ⟨b, B, n, hb, hm⟩
  refine ⟨rfl, rfl, rfl, by simp [KW.setM], fun k hk' => hs.2 k ?_, fun _ h => h, fun _ h => h, fun _ _ _ h => h, ?_⟩
  · rintro rfl; exact hH.notLive hk' hlive
  · intro k es1 c1 h1
    by_cases e : k = g
    · subst e
      rw [hh, Option.some.injEq] at h1
      cases h1
      exact ⟨es', clock', hs.1, hk⟩
    · exact ⟨es1, c1, (hs.2 k e).trans h1, fun e he => ⟨e, he, rfl, rfl⟩⟩
theorem HRel.setM {K : KW} {H : Hp} (hH : HRel K H) {b : Nat} {B : Blk} (hb : H[b]? = some B) (hB0 : B.gen = 0) {g : Nat} (hm : K.μ b B.gen = some (g, 0)) {es : Array MapEntry} {clock : Nat} (hh : K.w.heap[g]? = some (.map es clock))
    {es' : Array MapEntry} {clock' : Nat} (hk : ∀ e ∈ es.toList, ∃ e' ∈ es'.toList, e'.born = e.born ∧ e'.key = e.key) {mm : Mp} (hmp : MapIs K mm es' clock') :
    HRel (K.setM g es' clock') (setMp H b mm) ∧ Ext K H (K.setM g es' clock') (setMp H b mm) := by
  have hle := KW.setM_le hH hb hm hh clock' hk
  have hs := MapKept.heap_set (o' := .map es' clock') hh
  have hlive : Live K H g := ⟨b, B, 0, hb, hm⟩
  have hblt : b < H.length := (List.getElem?_eq_some_iff.1 hb).1
  have hget : ∀ (b' : Nat) (B' : Blk), (setMp H b mm)[b']? = some B' → (b' ≠ b ∧ H[b']? = some B') ∨ (b' = b ∧ B' = ⟨0, 0, [], some mm⟩) := by
    intro b' B' hb'
    unfold setMp at hb'
    rw [List.getElem?_set] at hb'
    split at hb'
    · rename_i e
      subst e
      simp [hblt] at hb'
      exact .inr ⟨rfl, hb'.symm⟩
    · rename_i e
      exact .inl ⟨fun q => e q.symm, hb'⟩
  have hgen : ∀ (b' : Nat) (B' : Blk), (setMp H b mm)[b']? = some B' → ∃ B'' : Blk, H[b']? = some B'' ∧ B''.gen = B'.gen := by
    intro b' B' hb'
    rcases hget b' B' hb' with ⟨_, h⟩ | ⟨rfl, rfl⟩
    · exact ⟨B', h, rfl⟩
    · exact ⟨B, hb, hB0⟩
  refine ⟨⟨?_, ?_, ?_, ?_⟩, hle, fun k hk' hl' => hs.2 k (by
    rintro rfl; exact hl' hlive), ?_, fun _ h => .inl h, fun _ h => h⟩
  · intro b' B' hb'
    rcases hget b' B' hb' with ⟨hne, hb'⟩ | ⟨rfl, rfl⟩
    · have other : ∀ g' n', K.μ b' B'.gen = some (g', n') → g' ≠ g := by
        rintro g' n' hm' rfl
        exact hne (hH.inj b' b B' B g' _ _ hb' hb hm' hm)
      rcases hH.blk b' B' hb' with h | ⟨m, g', es1, cl, hx', hp', hg0, hm', hh', hz, hy, hmp'⟩ | ⟨g', cur, hp', hm', hh', hz, hy, hl', hr, h1'⟩
      · exact .inl h
      · exact .inr <| .inl ⟨m, g', es1, cl, hx', hp', hg0, hm', (hs.2 g' (other _ _ hm')).trans hh', hz, hy, hmp'.mono hle⟩
      · exact .inr <| .inr ⟨g', cur, hp', hm', (hs.2 g' (other _ _ hm')).trans hh', hz, hy, hl', hr.mono hle, h1'⟩
    · refine .inr <| .inl ⟨mm, g, es', clock', rfl, rfl, rfl, ?_, hs.1, fun q => hH.notLive (.inl q) hlive, fun q => hH.notLive (.inr q) hlive, hmp.mono hle⟩
      rw [hB0] at hm; exact hm
  · intro b1 b2 B1 B2 g' n1 n2 h1' h2' m1 m2
    obtain ⟨C1, hC1, e1⟩ := hgen b1 B1 h1'
    obtain ⟨C2, hC2, e2⟩ := hgen b2 B2 h2'
    exact hH.inj b1 b2 C1 C2 g' n1 n2 hC1 hC2 (by rw [e1]; exact m1) (by rw [e2]; exact m2)
  · intro b' gen hgn
    refine hH.fresh b' gen (fun B' hB' => ?_)
    by_cases e : b' = b
    · subst e
      rw [hb] at hB'
      obtain rfl : B = B' := by simpa using hB'
      have := hgn ⟨0, 0, [], some mm⟩ (by simp [setMp, hblt])
      rw [hB0]; exact this
    · exact hgn B' (by unfold setMp; rw [List.getElem?_set_ne (fun q => e q.symm)]; exact hB')
  · intro k hk'
    have := hH.lt k hk'
    simpa [KW.setM] using this
  · rintro k ⟨b', B', n', hb', hm'⟩
    obtain ⟨C, hC, e⟩ := hgen b' B' hb'
    exact .inl ⟨b', C, n', hC, by rw [e]; exact hm'⟩

/-- What a value names as a map. -/
theorem mapOf_rep {K : KW} {H : Hp} (hH : HRel K H) {kn : Option Nat} {m : PV} {v : Value} (hm : Rep K m v) {mm : Mp} (h : mapOf kn m H = some mm) :
    mm.kn = kn ∧ ((v = .map none ∧ mm.ks = [] ∧ mm.vs = []) ∨ ∃ g es clock, v = .map (some g) ∧ K.w.heap[g]? = some (.map es clock) ∧ MapIs K mm es clock) := by
  cases m <;> simp only [mapOf, reduceCtorEq] at h
  case nilmap =>
    simp only [Option.some.injEq] at h
    subst h
    exact ⟨rfl, .inl ⟨hm, rfl, rfl⟩⟩
  case fmap bor kn' ks vs =>
    split at h
    case isFalse => cases h
    rename_i e
    subst e
    simp only [Option.some.injEq] at h
    subst h
    obtain ⟨_, hk, g, es, clock, es', hv, _, hh, hst, hp, hks, hvs⟩ := hm
    exact ⟨rfl, .inr ⟨g, es, clock, hv, hh, hk, hst, es', hp, hks, hvs⟩⟩
  case mmap b =>
    split at h
    case h_2 => cases h
    rename_i B hB
    split at h
    case h_2 => cases h
    rename_i m' hm'
    split at h
    case isFalse => cases h
    rename_i hc
    obtain ⟨hB0, rfl⟩ := hc
    simp only [Option.some.injEq] at h
    subst h
    obtain ⟨g, n, hmu, hv⟩ := hm
    refine ⟨rfl, .inr ?_⟩
    rcases hH.blk b B hB with ⟨_, hn, _⟩ | ⟨m2, g', es, cl, _, hp', _, hm2, hh, _, _, hmp⟩ | ⟨_, _, hn, _⟩
    · rw [hm'] at hn; cases hn
    · rw [hm', Option.some.injEq] at hp'
      subst hp'
      rw [hB0, hmu] at hm2
      obtain ⟨rfl, _⟩ : g = g' ∧ n = 0 := by simpa using hm2
      exact ⟨g, es, cl, hv, hh, hmp⟩
    · rw [hm'] at hn; cases hn
theorem mapAt_rep {K : KW} {H : Hp} (hH : HRel K H) {kn : Option Nat} {m : PV} {v : Value} (hm : Rep K m v) {b : Nat} {mm : Mp} (h : mapAt kn m H = some (b, mm)) :
    m = .mmap b ∧ mm.kn = kn ∧ ∃ B g es clock, H[b]? = some B ∧ B.gen = 0 ∧ K.μ b B.gen = some (g, 0) ∧ v = .map (some g) ∧ K.w.heap[g]? = some (.map es clock) ∧ MapIs K mm es clock := by
  cases m <;> simp only [mapAt, reduceCtorEq] at h
  case mmap b' =>
    simp only [Option.map_eq_some_iff, Prod.mk.injEq] at h
    obtain ⟨m', h, rfl, rfl⟩ := h
    obtain ⟨hkn, _⟩ := mapOf_rep hH hm h
    refine ⟨rfl, hkn, ?_⟩
    simp only [mapOf] at h
    split at h
    case h_2 => cases h
    rename_i B hB
    split at h
    case h_2 => cases h
    rename_i m2 hm2
    split at h
    case isFalse => cases h
    rename_i hc
    obtain ⟨hB0, _⟩ := hc
    simp only [Option.some.injEq] at h
    subst h
    obtain ⟨g, n, hmu, hv⟩ := hm
    rcases hH.blk b' B hB with ⟨_, hn, _⟩ | ⟨m3, g', es, cl, _, hp', _, hm3, hh, _, _, hmp⟩ | ⟨_, _, hn, _⟩
    · rw [hm2] at hn; cases hn
    · rw [hm2, Option.some.injEq] at hp'
      subst hp'
      have hm4 := hm3
      rw [hB0, hmu] at hm4
      obtain ⟨rfl, _⟩ : g = g' ∧ n = 0 := by simpa using hm4
      exact ⟨B, g, es, cl, hB, hB0, hm3, hv, hh, hmp⟩
    · rw [hm2] at hn; cases hn
theorem MapIs.keys {K : KW} {m : Mp} {es : Array MapEntry} {clock : Nat} (h : MapIs K m es clock) : ∀ e ∈ es.toList, ∃ y, keyB m.kn y = true ∧ e.key = kval y := by
  obtain ⟨hk, _, es', hp, hks, _⟩ := h
  intro e he
  have : e.key ∈ m.ks.map kval := by rw [← hks]; exact List.mem_map.2 ⟨e, hp.mem_iff.1 he, rfl⟩
  obtain ⟨k, hk', e'⟩ := List.mem_map.1 this
  exact ⟨k, hk k hk', e'.symm⟩
theorem MapIs.size {K : KW} {m : Mp} {es : Array MapEntry} {clock : Nat} (h : MapIs K m es clock) : es.size = m.ks.length := by
  obtain ⟨_, _, es', hp, hks, _⟩ := h
  have h1 := congrArg List.length hks
  have h2 := hp.length_eq
  simp at h1 h2
  omega

/-! ### Operations -/
section
variable {P : Program} {o : Oper} {a : Act} {K : KW} {H : Hp}
theorem run_zero {e : TypeId} {i : TypeInfo} {zv : Value} (hi : P.info? e = some i) (hz : i.zero = some zv) (w : World) : (zeroValue e).run P w = .ok zv w := by
  simp [zeroValue, typeInfo, hi, hz]
theorem ok_mlk {t kt e : TypeId} {kn : Option Nat} {M X : Operand} {m x z r : PV} {cok : Bool} {i : TypeInfo} {zv : Value} (ho : o.op = .lookup t M X cok) (ht : P.underlying t = some (.map kt e)) (hk : keyTy P kt kn = true)
    (hi : P.info? e = some i) (hz : i.zero = some zv) (hrz : Rep K z zv) (hH : HRel K H) (hm : Rep K m (a.eval M)) (hx : Rep K x (a.eval X)) (he : evMlk kn z cok m x H = some r) : OpOk P o a K H r H := by
  unfold evMlk at he
  split at he
  case isFalse => cases he
  rename_i hkx
  simp only [Option.map_eq_some_iff] at he
  obtain ⟨mm, hmm, he⟩ := he
  have hX := rep_kval hkx hx
  obtain ⟨hkn, hv⟩ := mapOf_rep hH hm hmm
  have fin : ∀ (v : Value) (y : PV) (b : Bool), Rep K y v → (Instr.lookup t (a.eval M) (a.eval X) cok).run P K.w = .ok (if cok then .tuple #[v, .bool b] else v) K.w → r = (if cok then .tup [y, .bool b] else y) → OpOk P o a K H r H := by
    rintro v y b hy hrun rfl
    refine OpOk.of_same (rv := if cok then .tuple #[v, .bool b] else v) ?_ hH ?_
    · simp [execOp, ho, hrun]
    · cases cok
      · exact hy
      · exact ⟨_, rfl, _, _, rfl, hy, _, _, rfl, rfl, rfl⟩
  rcases hv with ⟨hv, hks, hvs⟩ | ⟨g, es, clock, hv, hh, hmp⟩
  · refine fin zv z false hrz ?_ ?_
    · have hf : (Instr.findKey kt (kval x) []).run P K.w = .ok none K.w := by
        rcases run_findKey_pv hk hkx K.w [] (by simp) with ⟨h, _⟩ | ⟨j, e, _, h, _⟩
        · exact h
        · simp at h
      simp only [Instr.lookup, Sem.run_bind, run_underlying ht, Result.andThen_ok, hv, hX, Sem.run_pure, run_checkKey_pv hk hkx, hf, run_zero hi hz]
    · rw [← he]
      simp [mfind, hks, mix]
  · subst hkn
    have hkeys := hmp.keys
    have hck := run_checkKey_pv hk hkx es.isEmpty K.w
    rcases run_findKey_pv hk hkx K.w es.toList hkeys with ⟨hf, hno⟩ | ⟨j, e0, hf, hj, hje⟩
    · have hmf : mfind mm x = none := by
        rcases hmp.look hkx with ⟨h, _⟩ | ⟨j, y, h1, h2, h3⟩
        · simp [mfind, h]
        · exfalso
          obtain ⟨hk1, _, es', hp, hks, _⟩ := hmp
          have h4 := mix_some hkx hk1 h1
          have : kval x ∈ es'.map (·.key) := by rw [hks]; exact List.mem_map.2 ⟨x, List.mem_of_getElem? h4, rfl⟩
          obtain ⟨e', he', q⟩ := List.mem_map.1 this
          exact hno e' (hp.mem_iff.2 he') q
      refine fin zv z false hrz ?_ ?_
      · simp only [Instr.lookup, Sem.run_bind, run_underlying ht, Result.andThen_ok, hv, hX, Sem.run_pure, MapKept.run_getObj_map hh, hck, hf, run_zero hi hz]
      · rw [← he, hmf]; rfl
    · have hmem : e0 ∈ es.toList := List.mem_of_getElem? hj
      rcases hmp.look hkx with ⟨_, h⟩ | ⟨j', y, h1, h2, h3⟩
      · exact absurd hje (h e0 hmem)
      · refine fin e0.val y true (h3 e0 hmem hje) ?_ ?_
        · simp only [Instr.lookup, Sem.run_bind, run_underlying ht, Result.andThen_ok, hv, hX, Sem.run_pure, MapKept.run_getObj_map hh, hck, hf]
        · rw [← he]
          simp [mfind, h1, h2]
theorem ok_mln {t kt e : TypeId} {kn : Option Nat} {M : Operand} {m r : PV} (ho : o.op = .call { callee := .builtin .len, args := #[M], argTypes := #[t] }) (ht : P.underlying t = some (.map kt e))
    (hH : HRel K H) (hm : Rep K m (a.eval M)) (he : evMln kn m H = some r) : OpOk P o a K H r H := by
  unfold evMln at he
  simp only [Option.map_eq_some_iff] at he
  obtain ⟨mm, hmm, rfl⟩ := he
  obtain ⟨_, hv⟩ := mapOf_rep hH hm hmm
  refine OpOk.of_same (rv := .int .i64 mm.ks.length) ?_ hH rfl
  rcases hv with ⟨hv, hks, _⟩ | ⟨g, es, clock, hv, hh, hmp⟩
  · simp [execOp, ho, hv, resolve, invoke, builtin, Builtin.len_, run_underlying ht, goInt, hks]
  · rw [← hmp.size]
    simp [execOp, ho, hv, resolve, invoke, builtin, Builtin.len_, run_underlying ht, goInt, MapKept.run_getObj_map hh]
theorem ok_mkm {t : TypeId} {kn : Option Nat} (ho : o.op = .makeMap t none) (hH : HRel K H) : OpOk P o a K H (.mmap H.length) (H ++ [⟨0, 0, [], some ⟨kn, [], []⟩⟩]) := by
  obtain ⟨hH', hE⟩ := hH.withMp kn
  refine OpOk.of_run (K' := K.withMp H) (rv := .map (some K.w.heap.size)) ?_ hE hH' ⟨_, _, muSet_same _ _ _ _, rfl⟩
  simp [execOp, ho, Instr.makeMap, KW.withMp]
theorem toList_modify (es : Array MapEntry) (i : Nat) (f : MapEntry → MapEntry) (e0 : MapEntry) (h : es.toList[i]? = some e0) : (es.modify i f).toList = es.toList.set i (f e0) := by
  rw [Array.toList_modify]
  apply List.ext_getElem?
  intro k
  rw [List.getElem?_modify, List.getElem?_set]
  have hl := (List.getElem?_eq_some_iff.1 h).1
  by_cases e : i = k
  · subst e; simp [h]; simpa using hl
  · simp [e]
theorem keep_set {es : Array MapEntry} {es2 : Array MapEntry} {i0 : Nat} {e0 : MapEntry} (hi0 : es.toList[i0]? = some e0) {rv : Value} (hes2 : es2.toList = es.toList.set i0 { e0 with val := rv }) :
    ∀ e ∈ es.toList, ∃ e' ∈ es2.toList, e'.born = e.born ∧ e'.key = e.key := by
  intro e he
  obtain ⟨k, hk, rfl⟩ := List.getElem_of_mem he
  have hl := (List.getElem?_eq_some_iff.1 hi0).1
  by_cases q : i0 = k
  · subst q
    refine ⟨{ e0 with val := rv }, ?_, ?_⟩
    · rw [hes2]; exact List.mem_set hl _
    · have : es.toList[i0] = e0 := (List.getElem?_eq_some_iff.1 hi0).2
      rw [this]; exact ⟨rfl, rfl⟩
  · refine ⟨es.toList[k], ?_, rfl, rfl⟩
    rw [hes2]
    refine List.mem_of_getElem? (i := k) ?_
    rw [List.getElem?_set, if_neg q, List.getElem?_eq_getElem hk]
theorem getElem?_toList' (es : Array MapEntry) (j : Nat) : es[j]? = es.toList[j]? := by simp
theorem ok_mup {t kt e : TypeId} {kn : Option Nat} {M X V : Operand} {m x v : PV} {H' : Hp} (ho : o.op = .mapUpdate t M X V ∨ o.op = .insert t M X V) (ht : P.underlying t = some (.map kt e)) (hk : keyTy P kt kn = true)
    (hH : HRel K H) (hm : Rep K m (a.eval M)) (hx : Rep K x (a.eval X)) (hv : Rep K v (a.eval V)) (he : evMup kn m x v H = some H') : OpOk P o a K H .undef H' := by
  unfold evMup at he
  split at he
  case isFalse => cases he
  rename_i hkx
  simp only [Option.map_eq_some_iff] at he
  obtain ⟨⟨b, mm⟩, hmm, rfl⟩ := he
  have hX := rep_kval hkx hx
  obtain ⟨rfl, hkn, B, g, es, clock, hB, hB0, hmu, hM, hh, hmp⟩ := mapAt_rep hH hm hmm
  subst hkn
  have hck := run_checkKey_pv hk hkx false K.w
  have fin : ∀ es' clock', (Instr.mapUpdate t (a.eval M) (a.eval X) (a.eval V)).run P K.w = .ok () (K.setM g es' clock').w → (∀ e ∈ es.toList, ∃ e' ∈ es'.toList, e'.born = e.born ∧ e'.key = e.key) → MapIs K (mput mm x v) es' clock' →
      OpOk P o a K H .undef (setMp H b (mput mm x v)) := by
    intro es' clock' hrun hkeep hmp'
    obtain ⟨hH', hE⟩ := hH.setM hB hB0 hmu hh hkeep hmp'
    refine OpOk.of_skip (K' := K.setM g es' clock') ?_ hE hH'
    rcases ho with ho | ho <;> simp [execOp, ho, hrun]
  rcases run_findKey_pv hk hkx K.w es.toList hmp.keys with ⟨hf, hno⟩ | ⟨j, e0, hf, hj, hje⟩
  · have hmix : mix mm.ks x = none := by
      rcases hmp.look hkx with ⟨h, _⟩ | ⟨j, y, h1, h2, h3⟩
      · exact h
      · exfalso
        obtain ⟨hk1, _, es', hp, hks, _⟩ := hmp
        have h4 := mix_some hkx hk1 h1
        have : kval x ∈ es'.map (·.key) := by rw [hks]; exact List.mem_map.2 ⟨x, List.mem_of_getElem? h4, rfl⟩
        obtain ⟨e', he', q⟩ := List.mem_map.1 this
        exact hno e' (hp.mem_iff.2 he') q
    refine fin (es.push { key := kval x, val := a.eval V, born := clock }) (clock + 1) ?_ ?_ (hmp.ins hkx hmix hv)
    · simp only [Instr.mapUpdate, Sem.run_bind, run_underlying ht, Result.andThen_ok, hM, hX, MapKept.run_getObj_map hh, hck, hf, MapKept.run_setObj_map _ hh, KW.setM]
    · intro e he
      exact ⟨e, by rw [Array.toList_push]; exact List.mem_append_left _ he, rfl, rfl⟩
  · have hmem : e0 ∈ es.toList := List.mem_of_getElem? hj
    rcases hmp.look hkx with ⟨_, h⟩ | ⟨j', y, h1, h2, h3⟩
    · exact absurd hje (h e0 hmem)
    · have hes2 : (es.modify j fun e => { e with key := kval x, val := a.eval V }).toList = es.toList.set j { e0 with val := a.eval V } := by
        rw [toList_modify _ _ _ _ hj]
        simp only [← hje]
      refine fin (es.modify j fun e => { e with key := kval x, val := a.eval V }) clock ?_ (keep_set hj hes2) (hmp.upd hkx h1 hv hj hje hes2)
      have hold : ((es[j]?).map (·.key)).getD (kval x) = kval x := by rw [getElem?_toList', hj]; simp [hje]
      simp only [Instr.mapUpdate, Sem.run_bind, run_underlying ht, Result.andThen_ok, hM, hX, MapKept.run_getObj_map hh, hck, hf, hold, run_keyStays hkx, MapKept.run_setObj_map _ hh, KW.setM]
theorem ok_mpe {t kt e : TypeId} {kn : Option Nat} {M X : Operand} {m x z r : PV} {H' : Hp} {i : TypeInfo} {zv : Value} (ho : o.op = .mapEntry t M X) (ht : P.underlying t = some (.map kt e)) (hk : keyTy P kt kn = true)
    (hi : P.info? e = some i) (hz : i.zero = some zv) (hrz : Rep K z zv) (hH : HRel K H) (hm : Rep K m (a.eval M)) (hx : Rep K x (a.eval X)) (he : evMpe kn z m x H = some (r, H')) : OpOk P o a K H r H' := by
  unfold evMpe at he
  split at he
  case isFalse => cases he
  rename_i hkx
  simp only [Option.map_eq_some_iff] at he
  obtain ⟨⟨b, mm⟩, hmm, he⟩ := he
  have hX := rep_kval hkx hx
  obtain ⟨rfl, hkn, B, g, es, clock, hB, hB0, hmu, hM, hh, hmp⟩ := mapAt_rep hH hm hmm
  subst hkn
  have hck := run_checkKey_pv hk hkx false K.w
  rcases run_findKey_pv hk hkx K.w es.toList hmp.keys with ⟨hf, hno⟩ | ⟨j, e0, hf, hj, hje⟩
  · have hmix : mix mm.ks x = none := by
      rcases hmp.look hkx with ⟨h, _⟩ | ⟨j, y, h1, h2, h3⟩
      · exact h
      · exfalso
        obtain ⟨hk1, _, es', hp, hks, _⟩ := hmp
        have h4 := mix_some hkx hk1 h1
        have : kval x ∈ es'.map (·.key) := by rw [hks]; exact List.mem_map.2 ⟨x, List.mem_of_getElem? h4, rfl⟩
        obtain ⟨e', he', q⟩ := List.mem_map.1 this
        exact hno e' (hp.mem_iff.2 he') q
    simp only [mfind, hmix, Option.bind_none, Prod.mk.injEq] at he
    obtain ⟨rfl, rfl⟩ := he
    have hkeep : ∀ e ∈ es.toList, ∃ e' ∈ (es.push { key := kval x, val := zv, born := clock }).toList, e'.born = e.born ∧ e'.key = e.key := fun e he =>
      ⟨e, by rw [Array.toList_push]; exact List.mem_append_left _ he, rfl, rfl⟩
    obtain ⟨hH', hE⟩ := hH.setM hB hB0 hmu hh hkeep (hmp.ins hkx hmix hrz)
    refine OpOk.of_run (K' := K.setM g (es.push { key := kval x, val := zv, born := clock }) (clock + 1)) (rv := .tuple #[zv, goInt clock]) ?_ hE hH' ?_
    · simp only [execOp, ho, Instr.mapEntry, Sem.run_bind, run_underlying ht, Result.andThen_ok, hM, hX, MapKept.run_getObj_map hh, hck, hf, MapKept.run_setObj_map _ hh, KW.setM, run_zero hi hz, Sem.run_pure]
    · refine ⟨_, rfl, _, _, rfl, hrz.mono hE.le, _, _, rfl, ?_, rfl⟩
      have hs := MapKept.heap_set (o' := .map (es.push { key := kval x, val := zv, born := clock }) (clock + 1)) hh
      exact ⟨g, 0, _, _, { key := kval x, val := zv, born := clock }, by rw [hB0] at hmu; exact hmu, hs.1, by rw [Array.toList_push]; exact List.mem_append_right _ (by simp), rfl, rfl⟩
  · have hmem : e0 ∈ es.toList := List.mem_of_getElem? hj
    rcases hmp.look hkx with ⟨_, h⟩ | ⟨j', y, h1, h2, h3⟩
    · exact absurd hje (h e0 hmem)
    · simp only [mfind, h1, h2, Option.bind_some, Prod.mk.injEq] at he
      obtain ⟨rfl, rfl⟩ := he
      have hold : ((es[j]?).map (·.key)).getD (kval x) = kval x := by rw [getElem?_toList', hj]; simp [hje]
      have hmod : (es.modify j fun e => { e with key := kval x }) = es := by
        apply Array.toList_inj.1
        rw [toList_modify _ _ _ _ hj]
        have hl := (List.getElem?_eq_some_iff.1 hj).1
        have h0 : es.toList[j] = e0 := (List.getElem?_eq_some_iff.1 hj).2
        have : ({ e0 with key := kval x } : MapEntry) = es.toList[j] := by rw [h0, ← hje]
        rw [this, List.set_getElem_self]
      have hw : ({ K.w with heap := K.w.heap.setIfInBounds g (.map es clock) } : World) = K.w := by
        have : K.w.heap.setIfInBounds g (.map es clock) = K.w.heap := by
          apply Array.ext_getElem?
          intro k
          rw [Array.getElem?_setIfInBounds]
          split
          · rename_i q
            subst q
            have := (Array.getElem?_eq_some_iff.1 hh).1
            rw [if_pos this, hh]
          · rfl
        rw [this]
      refine OpOk.of_same (rv := .tuple #[e0.val, goInt e0.born]) ?_ hH ?_
      · have hbn : ((es[j]?).map (fun x => (x.born : Int))).getD 0 = e0.born := by rw [getElem?_toList', hj]; rfl
        simp only [execOp, ho, Instr.mapEntry, Sem.run_bind, run_underlying ht, Result.andThen_ok, hM, hX, MapKept.run_getObj_map hh, hck, hf, hold, run_keyStays hkx, MapKept.run_setObj_map _ hh, hmod, hw, hbn, Sem.run_pure]
      · refine ⟨_, rfl, _, _, rfl, h3 e0 hmem hje, _, _, rfl, ?_, rfl⟩
        exact ⟨g, 0, es, clock, e0, by rw [hB0] at hmu; exact hmu, hh, hmem, hje, rfl⟩
theorem ok_est {t : TypeId} {kn : Option Nat} {M S V : Operand} {m st v : PV} {H' : Hp} (ho : o.op = .entryStore t M S V)
    (hH : HRel K H) (hm : Rep K m (a.eval M)) (hs : Rep K st (a.eval S)) (hv : Rep K v (a.eval V)) (he : evEst kn m st v H = some H') : OpOk P o a K H .undef H' := by
  cases st <;> simp only [evEst, reduceCtorEq] at he
  case stp b' x =>
    split at he
    case isFalse => cases he
    rename_i hkx
    simp only [Option.bind_eq_some_iff] at he
    obtain ⟨⟨b, mm⟩, hmm, he⟩ := he
    split at he
    case isFalse => cases he
    rename_i hc
    obtain ⟨hbb, hj⟩ := hc
    simp only at hbb
    subst hbb
    simp only [Option.some.injEq] at he
    subst he
    obtain ⟨rfl, hkn, B, g, es, clock, hB, hB0, hmu, hM, hh, hmp⟩ := mapAt_rep hH hm hmm
    subst hkn
    obtain ⟨j', hj'⟩ := Option.isSome_iff_exists.1 hj
    obtain ⟨g', n', es1, clock1, e0, hmu', hh', hmem, hkey, hS⟩ := hs
    rw [hB0] at hmu
    have hmu2 := hmu
    rw [hmu'] at hmu2
    obtain ⟨rfl, _⟩ : g' = g ∧ n' = 0 := by simpa using hmu2
    rw [hh, Option.some.injEq] at hh'
    cases hh'
    have hidx : ∃ j, es.findIdx? (fun e => (e.born : Int) == (e0.born : Int)) = some j ∧ es.toList[j]? = some e0 := by
      cases hq : es.findIdx? (fun e => (e.born : Int) == (e0.born : Int)) with
      | none =>
        rw [Array.findIdx?_eq_none_iff] at hq
        have := hq e0 (Array.mem_toList_iff.1 hmem)
        simp at this
      | some j =>
        refine ⟨j, rfl, ?_⟩
        rw [Array.findIdx?_eq_some_iff_getElem] at hq
        obtain ⟨hjl, hp, _⟩ := hq
        simp only [beq_iff_eq, Int.ofNat_inj] at hp
        obtain ⟨i, hi, hie⟩ := List.getElem_of_mem hmem
        have hnd := hmp.2.1.2.1
        have hjl' : j < es.toList.length := by simpa using hjl
        have e1 : (es.toList.map (·.born))[j]? = some e0.born := by
          rw [List.getElem?_map, List.getElem?_eq_getElem hjl']
          simp only [Option.map_some, Option.some.injEq]
          simpa using hp
        have e2 : (es.toList.map (·.born))[i]? = some e0.born := by rw [List.getElem?_map, List.getElem?_eq_getElem hi, hie]; rfl
        have : j = i := (List.getElem?_inj (by simpa using hjl) hnd).1 (e1.trans e2.symm)
        subst this
        rw [List.getElem?_eq_getElem hi, hie]
    obtain ⟨j, hidx, hj0⟩ := hidx
    have hes2 : (es.modify j fun e => { e with val := a.eval V }).toList = es.toList.set j { e0 with val := a.eval V } := toList_modify _ _ _ _ hj0
    obtain ⟨hH', hE⟩ := hH.setM hB hB0 (by rw [hB0]; exact hmu) hh (keep_set hj0 hes2) (hmp.upd hkx hj' hv hj0 hkey hes2)
    refine OpOk.of_skip (K' := K.setM g' (es.modify j fun e => { e with val := a.eval V }) clock) ?_ hE hH'
    have hint : (asInt (goInt e0.born)).run P K.w = .ok (e0.born : Int) K.w := by simp [asInt, asIntOf, goInt]
    simp only [execOp, ho, Instr.entryStore, Sem.run_bind, hM, hS, Result.andThen_ok, MapKept.run_getObj_map hh, hint, hidx, MapKept.run_setObj_map _ hh, KW.setM, Sem.run_pure]
end

/-! ### Pointers against nil; clearing a slice -/
def evEqp (neg : Bool) (x y : PV) : Option PV :=
  match x, y with
  | .nilptr, .nilptr => some (.bool (!neg))
  | .pptr .., .nilptr => some (.bool neg)
  | .mptr .., .nilptr => some (.bool neg)
  | .nilptr, .pptr .. => some (.bool neg)
  | .nilptr, .mptr .. => some (.bool neg)
  | _, _ => none
def evClr (sz : Nat) (z : List PV) (x : PV) (H : Hp) : Option (PV × Hp) :=
  match x with
  | .list _ s [] => if s = sz then some (.tup [], H) else none
  | .msl _ b gen off len s => if s = sz then (if len = 0 then some (.tup [], H) else match H[b]? with
      | some B => if B.gen = gen ∧ off + len * sz ≤ B.xs.length ∧ z.length = sz ∧ z.all PV.one = true then some (.tup [], H.set b ⟨B.e, B.gen, setCells B.xs off (rep len z), none⟩) else none
      | none => none) else none
  | _ => none
section
variable {P : Program} {o : Oper} {a : Act} {K : KW} {H : Hp}
theorem run_equalIn_ptr (d : Nat) {t e : TypeId} (ht : P.underlying t = some (.pointer e)) (p q : Option Addr) (b : Bool) (hpq : (p = none ∧ b = q.isNone) ∨ (q = none ∧ b = p.isNone)) (w : World) : (Op.equalIn (d + 1) t (.pointer p) (.pointer q)).run P w = .ok b w := by
  rcases hpq with ⟨rfl, rfl⟩ | ⟨rfl, rfl⟩
  · cases q <;> simp [Op.equalIn, run_underlying ht]
  · cases p <;> simp [Op.equalIn, run_underlying ht]
theorem run_eqptr {op : BinOp} {neg : Bool} (hop : op = if neg then .neq else .eql) {t e : TypeId} (ht : P.underlying t = some (.pointer e)) (X Y : Operand) (p q : Option Addr) (b : Bool) (w : World)
    (h : (Op.equalIn 10000 t (.pointer p) (.pointer q)).run P w = .ok b w) :
    (do eqGuard op t X Y (.pointer p) (.pointer q); binOp op t (.pointer p) (.pointer q) : Sem Value).run P w = .ok (.bool (if neg then !b else b)) w := by
  have h1 : (Op.equal t (.pointer p) (.pointer q)).run P w = .ok b w := h
  cases neg
  · simp at hop; subst hop
    simp only [eqGuard, binOp, Sem.run_bind]; simp; rw [h1]; rfl
  · simp at hop; subst hop
    simp only [eqGuard, binOp, Sem.run_bind]; simp; rw [h1]; rfl
theorem ok_eqp {op : BinOp} {neg : Bool} (hop : op = if neg then .neq else .eql) {t yt e : TypeId} (ht : P.underlying t = some (.pointer e)) {X Y : Operand} {x y r : PV} (ho : o.op = .binOp op t X Y yt) (hH : HRel K H) (hx : Rep K x (a.eval X)) (hy : Rep K y (a.eval Y)) (he : evEqp neg x y = some r) : OpOk P o a K H r H := by
  have key : ∀ (b : Bool) (p q : Option Addr), a.eval X = .pointer p → a.eval Y = .pointer q → ((p = none ∧ b = q.isNone) ∨ (q = none ∧ b = p.isNone)) → OpOk P o a K H (.bool (if neg then !b else b)) H := by
    intro b p q hX hY hpq
    refine OpOk.of_same (rv := .bool (if neg then !b else b)) ?_ hH rfl
    have hrun := run_eqptr hop ht X Y p q b K.w (run_equalIn_ptr 9999 ht p q b hpq K.w)
    simp only [execOp, ho, hX, hY, Sem.run_bind] at hrun ⊢
    rw [hrun]
    rfl
  have fin : ∀ (b : Bool), (if neg then !b else b) = (if b then !neg else neg) := by intro b; cases b <;> cases neg <;> rfl
  unfold evEqp at he
  split at he <;> simp only [Option.some.injEq, reduceCtorEq] at he <;> subst he
  · have := key true none none hx hy (.inl ⟨rfl, rfl⟩)
    rwa [fin] at this
  · obtain ⟨_, _, g, oo, hv, _⟩ := hx
    have := key false _ none hv hy (.inr ⟨rfl, rfl⟩)
    rwa [fin] at this
  · obtain ⟨g, n, _, hv⟩ := hx
    have := key false _ none hv hy (.inr ⟨rfl, rfl⟩)
    rwa [fin] at this
  · obtain ⟨_, _, g, oo, hv, _⟩ := hy
    have := key false none _ hx hv (.inl ⟨rfl, rfl⟩)
    rwa [fin] at this
  · obtain ⟨g, n, _, hv⟩ := hy
    have := key false none _ hx hv (.inl ⟨rfl, rfl⟩)
    rwa [fin] at this
theorem zeroCells_made {K : KW} {z : List PV} {zv : Array Value} (h : RepL K z zv.toList) (n : Nat) : RepL K (rep n z) (Builtin.zeroCells zv n).toList := by
  have hl : z.length = zv.size := by simpa using h.length
  refine RepL.of (by simp [length_rep, Builtin.zeroCells, hl]) fun i x v hx hv => ?_
  unfold rep at hx
  rw [List.getElem?_map] at hx
  have hi : i < n * z.length := by
    have := (List.getElem?_eq_some_iff.1 hv).1
    simp [Builtin.zeroCells] at this
    rw [hl]; exact this
  rw [List.getElem?_range hi] at hx
  simp only [Option.map_some, Option.some.injEq] at hx
  have hz : 0 < z.length := by
    rcases Nat.eq_zero_or_pos z.length with q | q
    · rw [q] at hi; omega
    · exact q
  have hm : i % z.length < z.length := Nat.mod_lt _ hz
  have hv' : v = zv[i % zv.size]! := by
    unfold Builtin.zeroCells at hv
    rw [Array.toList_map, List.getElem?_map] at hv
    have h1 : (Array.range (n * zv.size)).toList[i]? = some i := by
      rw [Array.toList_range, List.getElem?_range (by rw [← hl]; exact hi)]
    rw [h1] at hv
    simpa using hv.symm
  rw [List.getD_eq_getElem?_getD, List.getElem?_eq_getElem hm] at hx
  simp only [Option.getD_some] at hx
  obtain ⟨u, hu, hr⟩ := h.get (i % z.length) _ (List.getElem?_eq_getElem hm)
  rw [← hx, hv']
  have : zv[i % zv.size]! = u := by
    rw [← hl]
    have h2 : zv[i % z.length]? = some u := by simpa using hu
    rw [getElem!_def, h2]
  rw [this]; exact hr
theorem ok_clr {t e : TypeId} {X : Operand} {x r z0 : PV} {H' : Hp} {i : TypeInfo} {zv : Value} {z : List PV} (ho : o.op = .call { callee := .builtin .clear, args := #[X], argTypes := #[t] }) (ht : P.underlying t = some (.slice e)) (hi : P.info? e = some i) (hz : i.zero = some zv) (hrz : RepL K z zv.cells.toList) (hsz : 0 < i.size)
    (hH : HRel K H) (hx : Rep K x (a.eval X)) (he : evClr i.size z x H = some (r, H')) : OpOk P o a K H r H' := by
  have nul : ∀ ad c, a.eval X = .slice ad 0 c → OpOk P o a K H (.tup []) H := by
    intro ad c hX
    refine OpOk.of_same (rv := .tuple #[]) ?_ hH ⟨_, rfl, rfl⟩
    cases ad <;> simp [execOp, ho, hX, resolve, invoke, builtin, Builtin.clear_, run_underlying ht]
  cases x <;> simp only [evClr, reduceCtorEq] at he
  case list nl s xs =>
    cases xs with
    | cons x xs => simp at he
    | nil =>
      simp only at he
      split at he
      case isFalse => cases he
      rename_i hs
      subst hs
      simp only [Option.some.injEq, Prod.mk.injEq] at he
      obtain ⟨rfl, rfl⟩ := he
      obtain ⟨hp, _, ad, n, c, hX, hl, _⟩ := hx
      have : n = 0 := by
        have hl' : 0 = n * i.size := hl
        rcases Nat.mul_eq_zero.1 hl'.symm with h | h
        · exact h
        · omega
      subst this
      exact nul ad c hX
  case msl ap b gen off len s =>
    split at he
    case isFalse => cases he
    rename_i hs
    subst hs
    obtain ⟨hp, hx⟩ := hx
    split at he
    · rename_i h0
      subst h0
      simp only [Option.some.injEq, Prod.mk.injEq] at he
      obtain ⟨rfl, rfl⟩ := he
      rcases hx with ⟨_, ⟨_, hX⟩ | ⟨_, ad, c, hX⟩⟩ | ⟨g, n, c, _, hX, _⟩
      · exact nul _ _ hX
      · exact nul _ _ hX
      · exact nul _ _ hX
    · rename_i h0
      split at he
      case h_2 => cases he
      rename_i B hB
      split at he
      case isFalse => cases he
      rename_i hc
      obtain ⟨rfl, hle, hzl, hz1⟩ := hc
      simp only [Option.some.injEq, Prod.mk.injEq] at he
      obtain ⟨rfl, rfl⟩ := he
      rcases hx with ⟨q, _⟩ | ⟨g, n, c, hm, hX, hlc, _⟩
      · exact absurd q h0
      have hpos : 0 < len * i.size := Nat.mul_pos (by omega) hsz
      rcases hH.blk b B hB with ⟨_, _, hno⟩ | ⟨_, _, _, _, hx0, _⟩ | ⟨g', cur, hpm, hm', hh, _, _, hlcur, hrc, h1c⟩
      · rw [hm] at hno; cases hno
      · rw [hx0] at hle; simp at hle; omega
      · rw [hm] at hm'
        obtain ⟨rfl, rfl⟩ : g = g' ∧ n = cur.size := by simpa using hm'
        have hzc := zeroCells_made hrz len
        have hlen : (Builtin.zeroCells zv.cells len).toList.length = len * i.size := by rw [← hzc.length, length_rep, hzl]
        have hrl : (rep len z).length = len * i.size := by rw [length_rep, hzl]
        obtain ⟨cur', hh', hs', hsz', hg, hrep⟩ := heap_setCells g B.e (Builtin.zeroCells zv.cells len).toList off K.w cur hh
        have hone : ∀ u ∈ (Builtin.zeroCells zv.cells len).toList, u.oneCell' = true := by
          intro u hu
          obtain ⟨k, hk, rfl⟩ := List.getElem_of_mem hu
          have hk' : k < (rep len z).length := by rw [hzc.length]; exact hk
          obtain ⟨v, hv, hr⟩ := hzc.get k _ (List.getElem?_eq_getElem hk')
          rw [List.getElem?_eq_getElem hk] at hv
          simp only [Option.some.injEq] at hv
          rw [hv]
          exact hr.one (List.all_eq_true.1 (all_rep PV.one len z hz1) _ (List.getElem_mem _))
        have hst := run_storeCells_cells (P := P) g off (Builtin.zeroCells zv.cells len).toList 0 K.w (fun j hj => by
          rw [Nat.add_zero, cell_of_row K.w g _ cur B.e (0, 0) hh]
          simp [Array.getElem?_eq_getElem (show off + j < cur.size by omega)]) (fun j hj => frozen_of_row K.w g _ cur B.e hh) hone
        simp only [Nat.add_zero] at hst
        have hxs := hrep K B.xs (rep len z) hrc hzc (by omega) hlcur
        have hle' : K.Le ⟨K.w.setCells g off (Builtin.zeroCells zv.cells len).toList, K.Z, K.Y, K.μ⟩ := ⟨hg.os, hg.tape, hg.output, hg.size, fun k hk => hg.block k (hH.lt k hk) (by
          intro e
          obtain rfl : k = g := by simpa using e
          exact hH.notLive hk ⟨b, B, _, hB, hm⟩), fun _ h => h, fun _ h => h, fun _ _ _ h => h, MapsKeep.grown hg (by
          intro k es c e
          obtain rfl : g = k := by simpa using e
          exact hH.noMap hB hpm hm es c)⟩
        obtain ⟨hH', hE⟩ := hH.put hg hsz' hB hpm hm hh' hs' (setCells B.xs off (rep len z)) (by rw [length_setCells]; exact hlcur) (by rw [length_setCells]; exact hxs.mono hle')
          (all_setCells _ _ _ _ h1c (all_rep PV.one len z hz1))
        refine OpOk.of_run (K' := ⟨K.w.setCells g off (Builtin.zeroCells zv.cells len).toList, K.Z, K.Y, K.μ⟩) (rv := .tuple #[]) ?_ hE hH' ⟨_, rfl, rfl⟩
        obtain ⟨m, rfl⟩ : ∃ m, len = m + 1 := ⟨len - 1, by omega⟩
        simp [execOp, ho, hX, resolve, invoke, builtin, Builtin.clear_, run_underlying ht, run_zero hi hz, hst]
end
end Go.Proofs.Ytmbknidfkddpfaa.PM
