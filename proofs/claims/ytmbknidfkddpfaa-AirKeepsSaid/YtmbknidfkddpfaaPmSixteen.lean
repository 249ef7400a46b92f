/- The pure machine, part 16: what a law is handed: its arguments as values by value. -/
import Derived.Test.YtmbknidfkddpfaaPmFifteen
import Derived.ChangeArms
set_option linter.unusedVariables false
set_option linter.unusedSimpArgs false
namespace Go.Proofs.Ytmbknidfkddpfaa.PM
open Go.RowKit (Below)

/-- The shape of a cell. -/
inductive CS where
  | bool
  | int (k : IntKind)
  | str
  | lst (sz : Nat) (e : List CS)

mutual
/-- The cells are of these shapes. -/
def Shaped : List CS → List PV → Prop
  | [], xs => xs = []
  | s :: ss, xs => ∃ y ys, xs = y :: ys ∧ ShapedC s y ∧ Shaped ss ys
def ShapedC : CS → PV → Prop
  | .bool, x => ∃ b, x = .bool b
  | .int k, x => ∃ n, x = .int k n ∧ (Lit.int k n).wf = true
  | .str, x => ∃ s, x = .str s
  | .lst sz e, x => ∃ rows : List (List PV), x = .list .any sz rows.flatten ∧ rows.length ≤ maxLen ∧ ∀ r ∈ rows, Shaped e r
end
theorem Shaped.length : ∀ {ss : List CS} {xs : List PV}, Shaped ss xs → xs.length = ss.length
  | [], xs, h => by rw [show xs = [] by simpa [Shaped] using h]; rfl
  | s :: ss, xs, h => by
    unfold Shaped at h
    obtain ⟨y, ys, rfl, _, h⟩ := h
    simp [h.length]
theorem Shaped.append : ∀ {ss tt : List CS} {xs ys : List PV}, Shaped ss xs → Shaped tt ys → Shaped (ss ++ tt) (xs ++ ys)
  | [], tt, xs, ys, h, k => by rw [show xs = [] by simpa [Shaped] using h]; exact k
  | s :: ss, tt, xs, ys, h, k => by
    unfold Shaped at h
    obtain ⟨y, zs, rfl, h1, h⟩ := h
    rw [List.cons_append, List.cons_append]
    unfold Shaped
    exact ⟨y, _, rfl, h1, h.append k⟩
theorem cleanL_append {xs ys : List PV} (h : PV.cleanL xs) (k : PV.cleanL ys) : PV.cleanL (xs ++ ys) := by
  rw [PV.cleanL_iff] at *
  intro x hx
  rcases List.mem_append.1 hx with hx | hx
  · exact h x hx
  · exact k x hx
mutual
theorem Shaped.clean : ∀ {ss : List CS} {xs : List PV}, Shaped ss xs → PV.cleanL xs ∧ xs.all PV.one = true
  | [], xs, h => by rw [show xs = [] by simpa [Shaped] using h]; exact ⟨trivial, rfl⟩
  | s :: ss, xs, h => by
    unfold Shaped at h
    obtain ⟨y, ys, rfl, h1, h⟩ := h
    have h1 := ShapedC.clean h1
    have h := Shaped.clean h
    exact ⟨⟨h1.1, h.1⟩, by simp [h1.2, h.2]⟩
theorem ShapedC.clean : ∀ {s : CS} {x : PV}, ShapedC s x → x.clean ∧ x.one = true
  | .bool, x, h => by unfold ShapedC at h; obtain ⟨b, rfl⟩ := h; exact ⟨trivial, rfl⟩
  | .int k, x, h => by unfold ShapedC at h; obtain ⟨n, rfl, _⟩ := h; exact ⟨trivial, rfl⟩
  | .str, x, h => by unfold ShapedC at h; obtain ⟨s, rfl⟩ := h; exact ⟨trivial, rfl⟩
  | .lst sz e, x, h => by
    unfold ShapedC at h
    obtain ⟨rows, rfl, _, h⟩ := h
    refine ⟨⟨by simp, ?_⟩, rfl⟩
    rw [PV.cleanL_iff]
    intro x hx
    obtain ⟨r, hr, hx⟩ := List.mem_flatten.1 hx
    exact PV.cleanL_iff.1 (Shaped.clean (h r hr)).1 x hx
end
theorem ShapedC.oneCell {K : KW} {s : CS} {x : PV} {v : Value} (h : ShapedC s x) (hr : Rep K x v) : v.oneCell' = true := by
  cases s <;> unfold ShapedC at h
  · obtain ⟨b, rfl⟩ := h; rw [show v = .bool b from hr]; rfl
  · obtain ⟨n, rfl, _⟩ := h; rw [show v = .int _ n from hr]; rfl
  · obtain ⟨s, rfl⟩ := h; rw [show v = .string s from hr]; rfl
  · obtain ⟨rows, rfl, _⟩ := h; obtain ⟨_, _, a, n, c, rfl, _⟩ := hr; rfl

/-- The shape of a type's cells. -/
def fieldsShape (P : Program) (sh : TypeId → Option (List CS)) : List Field → Nat → Option (List CS)
  | [], _ => some []
  | f :: fs, off => if f.offset = off then (sh f.type).bind fun s => if s.length = P.cellsOf f.type then (fieldsShape P sh fs (off + s.length)).map fun r => s ++ r else none else none
def shapeOf (P : Program) : Nat → TypeId → Option (List CS)
  | 0, _ => none
  | n + 1, t => match P.underlying t with
    | some .bool => some [.bool]
    | some (.int k) => some [.int k]
    | some .string => some [.str]
    | some (.slice e) => (shapeOf P n e).bind fun s => if s.length = P.cellsOf e ∧ 0 < P.cellsOf e then some [.lst (P.cellsOf e) s] else none
    | some (.struct fs) => (fieldsShape P (shapeOf P n) fs.toList 0).bind fun s => if s.length = P.cellsOf t then some s else none
    | _ => none

section
variable {H : Type} {enc : TypeId × Value → H} {P : Program} {w : World} {spare : Nat → Bool} {held : Bool}

theorem RepRow.append {K : KW} : ∀ {xs ys : List PV} {g o : Nat}, RepRow K xs g o → RepRow K ys g (o + xs.length) → RepRow K (xs ++ ys) g o
  | [], ys, g, o, _, k => by simpa using k
  | x :: xs, ys, g, o, h, k => ⟨h.1, RepRow.append h.2 (by rw [show o + 1 + xs.length = o + (x :: xs).length by simp; omega]; exact k)⟩

theorem shaped_row {K : KW} {g : Nat} : ∀ {ss : List CS} {xs : List PV} {cs : List Value} {o : Nat}, Shaped ss xs → RepL K xs cs → (∀ i, i < cs.length → K.w.cell? ⟨g, o + i, none⟩ = cs[i]?) → RepRow K xs g o
  | [], xs, cs, o, h, _, _ => by rw [show xs = [] by simpa [Shaped] using h]; trivial
  | s :: ss, xs, cs, o, h, hr, hc => by
    unfold Shaped at h
    obtain ⟨y, ys, rfl, h1, h⟩ := h
    obtain ⟨v, vs, rfl, hv, hvs⟩ := hr
    refine ⟨⟨v, ?_, h1.oneCell hv, h1.clean.2, hv⟩, shaped_row h hvs fun i hi => ?_⟩
    · have := hc 0 (by simp); simpa using this
    · have := hc (i + 1) (by simp; omega)
      rw [show o + 1 + i = o + (i + 1) by omega, this]
      simp

theorem reads {Y : Nat → Prop} : ∀ (n fuel : Nat) (t : TypeId) (cs : List Value) (x : DataW H × List MemPlace) (ss : List CS), DataW.trod enc P w 0 spare held fuel t cs = some x → shapeOf P n t = some ss →
    ∃ xs : List PV, RepL ⟨w, fun g => g < w.heap.size, Y, noMu⟩ xs cs ∧ Shaped ss xs
  | 0, _, _, _, _, _, _, hs => by simp [shapeOf] at hs
  | n + 1, fuel, t, cs, x, ss, h, hs => by
    unfold shapeOf at hs
    split at hs
    case h_1 ht =>
      obtain ⟨b, rfl, _⟩ := DataW.trod_bool ht h
      simp only [Option.some.injEq] at hs; subst hs
      exact ⟨[.bool b], ⟨_, _, rfl, rfl, rfl⟩, by unfold Shaped; exact ⟨_, _, rfl, by unfold ShapedC; exact ⟨b, rfl⟩, by unfold Shaped; rfl⟩⟩
    case h_2 k ht =>
      obtain ⟨m, rfl, _, hw⟩ := DataW.trod_int ht h
      simp only [Option.some.injEq] at hs; subst hs
      exact ⟨[.int k m], ⟨_, _, rfl, rfl, rfl⟩, by unfold Shaped; exact ⟨_, _, rfl, by unfold ShapedC; exact ⟨m, rfl, hw⟩, by unfold Shaped; rfl⟩⟩
    case h_3 ht =>
      obtain ⟨s, rfl, _, _⟩ := DataW.trod_string ht h
      simp only [Option.some.injEq] at hs; subst hs
      exact ⟨[.str s], ⟨_, _, rfl, rfl, rfl⟩, by unfold Shaped; exact ⟨_, _, rfl, by unfold ShapedC; exact ⟨s, rfl⟩, by unfold Shaped; rfl⟩⟩
    case h_4 e ht =>
      rw [Option.bind_eq_some_iff] at hs
      obtain ⟨s, hse, hs⟩ := hs
      split at hs
      case isFalse => cases hs
      rename_i hsz
      simp only [Option.some.injEq] at hs; subst hs
      obtain ⟨hsl, hpos⟩ := hsz
      rcases DataW.trod_slice ht h with ⟨rfl, _⟩ | ⟨a, len, cap, elems, rest, m, rfl, rfl, _, hb, hlc, hcm, hel, hall, _, _⟩
      · refine ⟨[.list .any (P.cellsOf e) []], ⟨_, _, rfl, ⟨hpos, by simp [PV.cleanL], none, 0, 0, rfl, by simp, Nat.le_refl _, .inl rfl⟩, rfl⟩, ?_⟩
        unfold Shaped
        exact ⟨_, _, rfl, by unfold ShapedC; exact ⟨[], rfl, Nat.zero_le _, by simp⟩, by unfold Shaped; rfl⟩
      · have key : ∀ k, k ≤ len → ∃ rows : List (List PV), rows.length = k ∧ (∀ r ∈ rows, Shaped s r) ∧ rows.flatten.length = k * P.cellsOf e ∧ (0 < k → a.spot = none ∧ a.block < w.heap.size) ∧
            RepRow ⟨w, fun g => g < w.heap.size, Y, noMu⟩ rows.flatten a.block a.off := by
          intro k
          induction k with
          | zero => exact fun _ => ⟨[], rfl, by simp, by simp, by simp, trivial⟩
          | succ k ih =>
            intro hk
            obtain ⟨rows, hl, hsh, hfl, hsp, hrow⟩ := ih (by omega)
            have h1 := hall k (by omega)
            rw [List.getElem?_eq_getElem (by omega), Option.bind_eq_some_iff] at h1
            obtain ⟨cs, hcs, htr⟩ := h1
            obtain ⟨_, hlen, hget⟩ := World.cells?_some hcs
            obtain ⟨xs, hxs, hss⟩ := reads (Y := Y) n m e cs _ s htr hse
            have hxl : xs.length = P.cellsOf e := by rw [hss.length, hsl]
            -- the address has no spot
            have hspot : a.spot = none ∧ a.block < w.heap.size := by
              have h0 := hget 0 hpos
              rw [List.getElem?_eq_getElem (by omega)] at h0
              by_cases hk0 : k = 0
              · subst hk0
                simp only [Nat.zero_mul, Addr.add, if_true] at h0
                unfold World.cell? at h0
                split at h0
                · rename_i c _ _ hc
                  split at h0
                  · cases h0
                  · rename_i hno
                    exact ⟨by simpa using hno, (Array.getElem?_eq_some_iff.1 hc).1⟩
                · cases h0
              · exact hsp (by omega)
            have hadd : ∀ i, a.add (k * P.cellsOf e + i) = ⟨a.block, a.off + k * P.cellsOf e + i, none⟩ := by
              intro i
              obtain ⟨g, o, sp⟩ := a
              simp only at hspot
              rw [hspot.1]
              unfold Addr.add
              split <;> simp_all [Nat.add_assoc]
            refine ⟨rows ++ [xs], by simp [hl], ?_, by simp [hfl, hxl, Nat.succ_mul], fun _ => hspot, ?_⟩
            · intro r hr
              rcases List.mem_append.1 hr with hr | hr
              · exact hsh r hr
              · rw [List.mem_singleton.1 hr]; exact hss
            · rw [List.flatten_append]
              refine RepRow.append hrow ?_
              rw [hfl]
              simp only [List.flatten_cons, List.flatten_nil, List.append_nil]
              refine shaped_row hss hxs fun i hi => ?_
              have := hget i (by omega)
              rw [← this]
              congr 1
              have e1 := hadd i
              rw [← e1]
              have e0 := hadd 0
              simp only [Nat.add_zero] at e0
              rw [e0, e1]
              unfold Addr.add
              split <;> simp_all
        obtain ⟨rows, hl, hsh, hfl, hsp, hrow⟩ := key len (Nat.le_refl _)
        have hclean : PV.cleanL rows.flatten := by
          rw [PV.cleanL_iff]
          intro x hx
          obtain ⟨r, hr, hx⟩ := List.mem_flatten.1 hx
          exact PV.cleanL_iff.1 (hsh r hr).clean.1 x hx
        refine ⟨[.list .any (P.cellsOf e) rows.flatten], ⟨_, _, rfl, ⟨hpos, by simpa using hclean, some a, len, cap, rfl, hfl, hlc, ?_⟩, rfl⟩, ?_⟩
        · rcases Nat.eq_zero_or_pos len with h0 | h0
          · left
            subst h0
            rw [List.length_eq_zero_iff.1 hl]; rfl
          · right
            obtain ⟨h1, h2⟩ := hsp h0
            refine ⟨a.block, a.off, ?_, .inl h2, hrow⟩
            obtain ⟨g, o, sp⟩ := a
            simp only at h1
            rw [h1]
        · unfold Shaped
          exact ⟨_, _, rfl, by unfold ShapedC; exact ⟨rows, rfl, by omega, hsh⟩, by unfold Shaped; rfl⟩
    case h_5 fs ht =>
      rw [Option.bind_eq_some_iff] at hs
      obtain ⟨s, hfs, hs⟩ := hs
      split at hs
      case isFalse => cases hs
      rename_i hsl
      simp only [Option.some.injEq] at hs; subst hs
      obtain ⟨xs, m, rfl, _, hcl, hxl, hall⟩ := DataW.trod_struct ht h
      have key : ∀ (l : List Field) (off j : Nat) (s : List CS), fs.toList.drop j = l → fieldsShape P (shapeOf P n) l off = some s → ∃ ys, RepL ⟨w, fun g => g < w.heap.size, Y, noMu⟩ ys ((cs.drop off).take s.length) ∧ Shaped s ys := by
        intro l
        induction l with
        | nil =>
          intro off j s _ hf
          simp only [fieldsShape, Option.some.injEq] at hf; subst hf
          exact ⟨[], by simp [RepL], by unfold Shaped; rfl⟩
        | cons f l ih =>
          intro off j s hd hf
          simp only [fieldsShape] at hf
          split at hf
          case isFalse => cases hf
          rename_i ho
          rw [Option.bind_eq_some_iff] at hf
          obtain ⟨sf, hsf, hf⟩ := hf
          split at hf
          case isFalse => cases hf
          rename_i hlf
          rw [Option.map_eq_some_iff] at hf
          obtain ⟨r, hr, rfl⟩ := hf
          have hj : fs.toList[j]? = some f := by
            have := congrArg (·[0]?) hd
            simpa using this
          have hj' : fs[j]? = some f := by simpa using hj
          have hjl : j < fs.size := (Array.getElem?_eq_some_iff.1 hj').1
          have h1 := hall j f hj'
          rw [List.getElem?_eq_getElem (by omega)] at h1
          obtain ⟨ys, hys, hsy⟩ := reads (Y := Y) n m f.type _ _ sf h1 hsf
          obtain ⟨zs, hzs, hsz⟩ := ih (off + sf.length) (j + 1) r (by rw [← List.drop_drop, hd]; rfl) hr
          refine ⟨ys ++ zs, ?_, hsy.append hsz⟩
          rw [List.length_append, List.take_add, List.drop_drop]
          subst ho
          rw [hlf] at hzs ⊢
          exact hys.append hzs
      obtain ⟨ys, hys, hsy⟩ := key _ 0 0 s (by simp) hfs
      refine ⟨ys, ?_, hsy⟩
      rw [List.drop_zero, hsl, ← hcl, List.take_length] at hys
      exact hys
    case h_6 => cases hs
end

/-- A list of a type's values. -/
theorem shaped_lst {α : Type} [Enc α] {e : List CS} {Wf : α → Prop} (he : ∀ r, Shaped e r → ∃ a : α, r = Enc.enc a ∧ Wf a) {s : Nat} (hs : s = Enc.sz α) {x : PV} (h : ShapedC (.lst s e) x) : ∃ ls : List α, x = lst .any ls ∧ ls.length ≤ maxLen ∧ ∀ a ∈ ls, Wf a := by
  subst hs
  unfold ShapedC at h
  obtain ⟨rows, rfl, hl, hr⟩ := h
  have key : ∀ rows : List (List PV), (∀ r ∈ rows, Shaped e r) → ∃ ls : List α, rows.flatten = cl ls ∧ ls.length = rows.length ∧ ∀ a ∈ ls, Wf a := by
    intro rows
    induction rows with
    | nil => exact fun _ => ⟨[], rfl, rfl, by simp⟩
    | cons r rows ih =>
      intro h
      obtain ⟨ls, h1, h2, h3⟩ := ih fun q hq => h q (List.mem_cons_of_mem _ hq)
      obtain ⟨a, rfl, ha⟩ := he r (h r (List.mem_cons_self ..))
      refine ⟨a :: ls, by rw [List.flatten_cons, h1, cl_cons], by simp [h2], ?_⟩
      intro b hb
      rcases List.mem_cons.1 hb with rfl | hb
      · exact ha
      · exact h3 b hb
  obtain ⟨ls, h1, h2, h3⟩ := key rows hr
  exact ⟨ls, by rw [h1]; rfl, by omega, h3⟩
theorem shaped_int {r : List PV} (h : Shaped [.int .i64] r) : ∃ a : Int, r = Enc.enc a ∧ (Lit.int .i64 a).wf = true := by
  simp only [Shaped, ShapedC] at h
  obtain ⟨_, _, rfl, ⟨a, rfl, ha⟩, rfl⟩ := h
  exact ⟨a, rfl, ha⟩
theorem shaped_bool {r : List PV} (h : Shaped [.bool] r) : ∃ a : Bool, r = Enc.enc a ∧ True := by
  simp only [Shaped, ShapedC] at h
  obtain ⟨_, _, rfl, ⟨a, rfl⟩, rfl⟩ := h
  exact ⟨a, rfl, trivial⟩
theorem shaped_one {s : CS} {xs : List PV} (h : Shaped [s] xs) : ∃ x, xs = [x] ∧ ShapedC s x := by
  simp only [Shaped] at h
  obtain ⟨y, _, rfl, h, rfl⟩ := h
  exact ⟨y, rfl, h⟩

/-- What an argument of a law reads as. -/
theorem reads_arg {H : Type} {enc : TypeId × Value → H} {P : Program} {w : World} {spare : Nat → Bool} {held : Bool} {t : TypeId} {v : Value} {d : DataW H} {ps : List MemPlace} {s : CS} (n : Nat) (h : DataW.Trod enc P w 0 spare held t v d ps) (hs : shapeOf P n t = some [s]) (hv : v.cells.toList = [v]) :
    ∃ x, Rep ⟨w, fun g => g < w.heap.size, fun _ => False, noMu⟩ x v ∧ ShapedC s x := by
  obtain ⟨fuel, h⟩ := h
  obtain ⟨xs, hr, hx⟩ := reads (Y := fun _ => False) n fuel t _ _ _ h hs
  obtain ⟨x, rfl, hx'⟩ := shaped_one hx
  rw [hv] at hr
  obtain ⟨_, _, e, hr, rfl⟩ := hr
  simp only [List.cons.injEq, and_true] at e
  subst e
  exact ⟨x, hr, hx'⟩
theorem reads_agg {H : Type} {enc : TypeId × Value → H} {P : Program} {w : World} {spare : Nat → Bool} {held : Bool} {t : TypeId} {cs : Array Value} {d : DataW H} {ps : List MemPlace} {ss : List CS} (n : Nat) (h : DataW.Trod enc P w 0 spare held t (.agg cs) d ps) (hs : shapeOf P n t = some ss) :
    ∃ xs, Rep ⟨w, fun g => g < w.heap.size, fun _ => False, noMu⟩ (.agg xs) (.agg cs) ∧ Shaped ss xs := by
  obtain ⟨fuel, h⟩ := h
  obtain ⟨xs, hr, hx⟩ := reads (Y := fun _ => False) n fuel t _ _ _ h hs
  exact ⟨xs, ⟨_, rfl, hr⟩, hx⟩
theorem calls_true {P : Program} {f : Nat} {args : List PV} {vs : Array Value} {w : World} (h : PureOk P f args (.bool true)) (hr : RepL ⟨w, fun g => g < w.heap.size, fun _ => False, noMu⟩ args vs.toList) :
    Calls P f vs w fun e w' => e = .returned (.bool true) ∧ Below w.heap.size w w' := by
  refine (h.2 w _ _ vs (fun g hg => hg.elim id False.elim) hr).mono ?_
  rintro e w' ⟨v, rfl, hb, hv⟩
  exact ⟨by rw [show v = .bool true from hv], hb⟩
end Go.Proofs.Ytmbknidfkddpfaa.PM
