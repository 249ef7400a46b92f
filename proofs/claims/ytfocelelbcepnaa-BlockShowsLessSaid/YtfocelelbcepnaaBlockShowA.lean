/- Several texts in one: BlockShow, BlockShow2, BlockShow3, BlockShow4. -/
import Derived.Test.YtfocelelbcepnaaBlockBeyA
section
set_option linter.unusedVariables false
set_option linter.unusedSimpArgs false
set_option maxHeartbeats 4000000
set_option maxRecDepth 20000
namespace Go.Proofs.Ytfocelelbcepnaa
open Go.Proofs.Ytfocelelbcepnaa.PM

/-! ### Going on until nothing changes -/
inductive Till (F : List Bool → List Bool) : List Bool → List Bool → Prop
  | stop {s : List Bool} : F s = s → Till F s s
  | go {s t : List Bool} : F s ≠ s → Till F (F s) t → Till F s t
theorem Till.uniq {F : List Bool → List Bool} {s t t' : List Bool} (h : Till F s t) : Till F s t' → t = t' := by
  induction h with
  | stop e =>
    intro h'
    cases h' with
    | stop _ => rfl
    | go n _ => exact absurd e n
  | go n _ ih =>
    intro h'
    cases h' with
    | stop e => exact absurd e n
    | go _ h'' => exact ih h''
theorem Till.fix {F : List Bool → List Bool} {s t : List Bool} (h : Till F s t) : F t = t := by
  induction h with
  | stop e => exact e
  | go _ _ ih => exact ih
def ctT (l : List Bool) : Nat := l.countP id
theorem ctT_le (l : List Bool) : ctT l ≤ l.length := List.countP_le_length
theorem ctT_set {l : List Bool} {i : Nat} (h : l[i]? = some false) : ctT (l.set i true) = ctT l + 1 := by
  obtain ⟨h1, h2⟩ := List.getElem?_eq_some_iff.1 h
  unfold ctT
  rw [List.countP_set h1, h2]
  simp
theorem set_same {l : List Bool} {i : Nat} (h : l.getD i false = false) : l.set i false = l := by
  refine List.ext_getElem? fun j => ?_
  rw [List.getElem?_set]
  split
  · rename_i e
    subst e
    split
    · rename_i hl
      rw [List.getD_eq_getElem?_getD, List.getElem?_eq_getElem hl] at h
      rw [List.getElem?_eq_getElem hl]
      simpa using h.symm
    · rename_i hl
      rw [List.getElem?_eq_none (by omega)]
  · rfl
section
variable (g : List Bool → Nat → Bool)
def stepS (s : List Bool) (i : Nat) : List Bool := if s.getD i false = true then s else s.set i (g s i)
def passS (s : List Bool) (n : Nat) : List Bool := (List.range n).foldl (stepS g) s
theorem passS_zero (s : List Bool) : passS g s 0 = s := rfl
theorem passS_succ (s : List Bool) (n : Nat) : passS g s (n + 1) = stepS g (passS g s n) n := by simp [passS, List.range_succ]
theorem stepS_len (s : List Bool) (i : Nat) : (stepS g s i).length = s.length := by unfold stepS; split <;> simp
theorem passS_len (s : List Bool) : ∀ n, (passS g s n).length = s.length
  | 0 => rfl
  | n + 1 => by rw [passS_succ, stepS_len, passS_len s n]
theorem stepS_ct (s : List Bool) (i : Nat) : ctT s ≤ ctT (stepS g s i) ∧ (ctT (stepS g s i) = ctT s → stepS g s i = s) := by
  unfold stepS
  split
  · exact ⟨Nat.le_refl _, fun _ => rfl⟩
  · rename_i h
    have h0 : s.getD i false = false := by simpa using h
    cases hg : g s i
    · rw [set_same h0]; exact ⟨Nat.le_refl _, fun _ => rfl⟩
    · by_cases hi : i < s.length
      · have : s[i]? = some false := by
          rw [List.getD_eq_getElem?_getD, List.getElem?_eq_getElem hi] at h0
          rw [List.getElem?_eq_getElem hi]
          simpa using h0
        rw [ctT_set this]
        exact ⟨by omega, fun e => by omega⟩
      · rw [List.set_eq_of_length_le (by omega)]
        exact ⟨Nat.le_refl _, fun _ => rfl⟩
theorem passS_ct (s : List Bool) : ∀ n, ctT s ≤ ctT (passS g s n) ∧ (ctT (passS g s n) = ctT s → passS g s n = s)
  | 0 => ⟨Nat.le_refl _, fun _ => rfl⟩
  | n + 1 => by
    obtain ⟨h1, h2⟩ := passS_ct s n
    obtain ⟨h3, h4⟩ := stepS_ct g (passS g s n) n
    rw [passS_succ]
    refine ⟨Nat.le_trans h1 h3, fun e => ?_⟩
    have e1 := h2 (by omega)
    rw [h4 (by omega), e1]
theorem passS_fix {s : List Bool} {n : Nat} (h : passS g s n = s) : ∀ k, k ≤ n → passS g s k = s := by
  have mono : ∀ d k, ctT (passS g s k) ≤ ctT (passS g s (k + d)) := by
    intro d
    induction d with
    | zero => intro k; exact Nat.le_refl _
    | succ d ih => intro k; rw [← Nat.add_assoc, passS_succ]; exact Nat.le_trans (ih k) (stepS_ct g _ _).1
  intro k hk
  refine (passS_ct g s k).2 (Nat.le_antisymm ?_ (passS_ct g s k).1)
  have := mono (n - k) k
  rw [show k + (n - k) = n by omega, h] at this
  exact this
theorem stepS_fix {s : List Bool} {n i : Nat} (h : passS g s n = s) (hi : i < n) : stepS g s i = s := by
  have := passS_fix g h (i + 1) (by omega)
  rwa [passS_succ, passS_fix g h i (by omega)] at this
theorem stepS_on {s : List Bool} {i : Nat} (h : s.getD i false = true) : stepS g s i = s := if_pos h
theorem stepS_no {s : List Bool} {i : Nat} (h : s.getD i false = false) (hg : g s i = false) : stepS g s i = s := by
  unfold stepS; rw [if_neg (by rw [h]; simp), hg, set_same h]
theorem stepS_yes {s : List Bool} {i : Nat} (h : s.getD i false = false) (hg : g s i = true) : stepS g s i = s.set i true := by
  unfold stepS; rw [if_neg (by rw [h]; simp), hg]
theorem stepS_off {s : List Bool} {i : Nat} (h : s.getD i false = false) : stepS g s i = s.set i (g s i) := by
  unfold stepS; rw [if_neg (by rw [h]; simp)]
end
def leB (s t : List Bool) : Prop := ∀ i, s.getD i false = true → t.getD i false = true
theorem passS_mono {g g' : List Bool → Nat → Bool} {t : List Bool} {n : Nat} (hg : ∀ s i, leB s t → g s i = true → g' t i = true) (hn : t.length = n) (ht : passS g' t n = t) {s : List Bool} (hs : leB s t) :
    ∀ k, k ≤ n → leB (passS g s k) t
  | 0, _ => hs
  | k + 1, hk => by
    have ih := passS_mono hg hn ht hs k (by omega)
    rw [passS_succ]
    unfold stepS
    split
    · exact ih
    · intro j hj
      rw [List.getD_eq_getElem?_getD, List.getElem?_set] at hj
      split at hj
      · rename_i e
        subst e
        split at hj
        · have hgt := hg _ _ ih (by simpa using hj)
          have hf := stepS_fix g' ht (i := k) (by omega)
          cases hc : t.getD k false
          · rw [stepS_yes g' hc hgt] at hf
            rw [← hf, List.getD_eq_getElem?_getD, List.getElem?_set_self (by omega)] at hc
            cases hc
          · rfl
        · cases hj
      · exact ih j (by rw [List.getD_eq_getElem?_getD]; exact hj)
theorem till_mono {g g' : List Bool → Nat → Bool} {t : List Bool} {n : Nat} (hg : ∀ s i, leB s t → g s i = true → g' t i = true) (hn : t.length = n) (ht : passS g' t n = t) {s u : List Bool} (h : Till (fun s => passS g s n) s u) : leB s t → leB u t := by
  induction h with
  | stop _ => exact id
  | go _ _ ih => exact fun hs => ih (passS_mono hg hn ht hs n (Nat.le_refl _))
theorem Till.len {g : List Bool → Nat → Bool} {n : Nat} {s u : List Bool} (h : Till (fun s => passS g s n) s u) : u.length = s.length := by
  induction h with
  | stop _ => rfl
  | go _ _ ih => rw [ih, passS_len]
/-! ### What a signal looks at -/
noncomputable def byS (r : Rl) (ls : List Sg) (s : Sg) : List Int := byL r ls ⟨s.t, s.p, s.o⟩
def askS (s : Sg) : Bool := decide (s.k = 1) || decide (s.k = 3)
def exS (s : Sg) : Bool := decide (s.k = 2) || decide (s.k = 3)
noncomputable def ofS (r : Rl) (ls : List Sg) (t : Sg) : Int := (numL r ls).getD (8 * t.t + t.p).toNat 0
noncomputable def lvS (r : Rl) (ls : List Sg) (s : Sg) (b : Int) (t : Sg) : Bool := exS t && (decide (ofS r ls t = b) && (!decide (t.t = s.t) || !decide (t.p = s.p)))
noncomputable def lvB (r : Rl) (ls : List Sg) (s : Sg) (b : Int) (j : Nat) : Bool := match ls[j]? with | some t => lvS r ls s b t | none => false
noncomputable def opB (r : Rl) (ls : List Sg) (sh : List Bool) (s : Sg) (b : Int) : Bool := anyN (fun j => lvB r ls s b j && sh.getD j false) 0 ls.length || !anyN (lvB r ls s b) 0 ls.length
def frL (held : List Int) : List Int → Bool
  | [] => false
  | n :: _ => !decide (n ∈ held)
noncomputable def freeS (r : Rl) (ls : List Sg) (held : List Int) (s : Sg) : Bool := frL held (byS r ls s)
noncomputable def goS (r : Rl) (ls : List Sg) (held : List Int) (sh : List Bool) (s : Sg) : Bool := freeS r ls held s && (match byS r ls s with | [] => true | b :: _ => !askS s || opB r ls sh s b)
noncomputable def goB (r : Rl) (ls : List Sg) (held : List Int) (sh : List Bool) (i : Nat) : Bool := match ls[i]? with | some s => goS r ls held sh s | none => false
noncomputable abbrev Shows (r : Rl) (ls : List Sg) (held : List Int) (t : List Bool) : Prop := Till (fun s => passS (goB r ls held) s ls.length) (List.replicate ls.length false) t
theorem opB_mono {r : Rl} {ls : List Sg} {sh t : List Bool} (h : leB sh t) {s : Sg} {b : Int} (ho : opB r ls sh s b = true) : opB r ls t s b = true := by
  unfold opB at *
  rw [Bool.or_eq_true] at ho ⊢
  rcases ho with ho | ho
  · obtain ⟨j, h1, h2, h3⟩ := anyN_of ho
    rw [Bool.and_eq_true] at h3
    exact .inl (anyN_t h1 h2 (by rw [Bool.and_eq_true]; exact ⟨h3.1, h _ h3.2⟩))
  · exact .inr ho
theorem goB_mono {r : Rl} {ls : List Sg} {held more : List Int} {sh t : List Bool} (h : leB sh t) {i : Nat} (hg : goB r ls (held ++ more) sh i = true) : goB r ls held t i = true := by
  unfold goB at *
  split at hg
  · rename_i s _
    unfold goS freeS at *
    rw [Bool.and_eq_true] at hg ⊢
    obtain ⟨h1, h2⟩ := hg
    cases hb : byS r ls s with
    | nil => rw [hb] at h1; cases h1
    | cons n _ =>
      simp only [hb] at h1 h2 ⊢
      unfold frL at h1 ⊢
      constructor
      · simp only [List.mem_append, Bool.not_eq_true', decide_eq_false_iff_not] at h1 ⊢
        exact fun q => h1 (.inl q)
      · rw [Bool.or_eq_true] at h2 ⊢
        exact h2.imp id (opB_mono h)
  · cases hg
/-- With more that is held no signal shows go that did not. -/
theorem shows_less {r : Rl} {ls : List Sg} {held more : List Int} {a b : List Bool} (ha : Shows r ls held a) (hb : Shows r ls (held ++ more) b) : leB b a := by
  have hl : a.length = ls.length := by rw [Till.len ha]; simp
  refine till_mono (g' := goB r ls held) (fun s i hs hg => goB_mono hs hg) hl (Till.fix ha) hb ?_
  intro i hi
  rw [List.getD_eq_getElem?_getD, List.getElem?_replicate] at hi
  split at hi <;> simp at hi
end Go.Proofs.Ytfocelelbcepnaa
end

section
set_option linter.unusedVariables false
set_option linter.unusedSimpArgs false
set_option maxHeartbeats 8000000
set_option maxRecDepth 20000
namespace Go.Proofs.Ytfocelelbcepnaa
open Go.Proofs.Ytfocelelbcepnaa.PM

theorem intIdx_ok {nl : Nl} (xs : List Int) (x : Int) (h : xs.length ≤ 100000) : ∃ i : Int, R tb 117 [lst nl xs, .int .i64 x] = some (.int .i64 i) ∧ (0 ≤ i ↔ x ∈ xs) := by
  obtain ⟨v, h1, i, rfl, h2⟩ := R_ex (T := tb) (f := 117) (F := pf117) (args := [lst nl xs, .int .i64 x]) (Rq := fun v => ∃ i : Int, v = .int .i64 i ∧ (0 ≤ i ↔ x ∈ xs)) rfl rfl rfl (by
    simp (disch := first | omega | with_unfolding_all rfl) [pf117, env0_eq]
    refine G_scanC [0, 1, 7] 8 (fun i => decide (xs[i]? = some x)) xs.length 0 (by simp) (Nat.zero_le _) ?_
    rintro i e - hi hz hk g8
    simp at hk
    simp (disch := first | omega | with_unfolding_all rfl) [hk, g8]
    refine G_brd (fun d => ?_) (fun d => ?_)
    · have hin : i < xs.length := by omega
      obtain ⟨y, hy⟩ : ∃ y, y = xs[i] := ⟨_, rfl⟩
      by_cases c : x = y
      · have hm : x ∈ xs := by rw [c, hy]; exact List.getElem_mem hin
        subst c
        simp (disch := first | omega | with_unfolding_all rfl) [hk, g8, d, ← hy, hm]
      · have hne : ¬ y = x := fun q => c q.symm
        simp (disch := first | omega | with_unfolding_all rfl) [hk, g8, d, ← hy, c, hne]
    · simp (disch := first | omega | with_unfolding_all rfl) [hk, g8, d]
      intro hx
      obtain ⟨j, hj, e⟩ := List.getElem_of_mem hx
      have := hz j (Nat.zero_le j) (by omega)
      simp [hj, e] at this)
  exact ⟨i, h1, h2⟩
theorem intHas_ok {nl : Nl} (xs : List Int) (x : Int) (h : xs.length ≤ 100000) : R tb 104 [lst nl xs, .int .i64 x] = some (.bool (decide (x ∈ xs))) := by
  obtain ⟨i, h117, hi⟩ := intIdx_ok (nl := nl) xs x h
  refine R_of_G (F := pf104) rfl rfl rfl ?_
  have : decide (0 ≤ i) = decide (x ∈ xs) := by rw [decide_eq_decide]; exact hi
  simp (disch := first | omega | with_unfolding_all rfl) [pf104, env0_eq, h117]
  rw [← decide_eq_decide]; exact this
/-- What holds of a signal's number. -/
theorem sig_at {r : Rl} {ls : List Sg} (v : Vd r ls) {t : Sg} (ht : t ∈ ls) : 0 ≤ t.t ∧ t.t ≤ 100000 ∧ 0 ≤ t.p ∧ t.p < 6 ∧ ∃ z : Nat, (z : Int) = 8 * t.t + t.p ∧ z < (numL r ls).length ∧ (numL r ls)[z]? = some (ofS r ls t) := by
  have hl := lie_lt (v.ly t ht)
  have hlen := num_len v
  have hm := v.g.mul
  have hls := v.g.ls
  refine ⟨by omega, by omega, by omega, by omega, (8 * t.t + t.p).toNat, by omega, by omega, ?_⟩
  unfold ofS
  rw [List.getD_eq_getElem?_getD, List.getElem?_eq_getElem (by omega)]
  rfl
theorem leaves_ok {r : Rl} {ls : List Sg} (v : Vd r ls) {n1 n2 : Nl} {i j : Nat} (hi : i < ls.length) (hj : j < ls.length) (b : Int) :
    R tb 105 [lst n1 ls, lst n2 (numL r ls), .int .i64 i, .int .i64 j, .int .i64 b] = some (.bool (lvS r ls ls[i] b ls[j])) := by
  have hle := v.le
  obtain ⟨s, hs⟩ : ∃ s, s = ls[i] := ⟨_, rfl⟩
  obtain ⟨t, ht⟩ : ∃ t, t = ls[j] := ⟨_, rfl⟩
  obtain ⟨a1, a2, a3, a4, z, hz, hzl, hze⟩ := sig_at v (t := t) (by rw [ht]; exact List.getElem_mem hj)
  have hzg : (numL r ls)[z] = ofS r ls t := by
    rw [List.getElem?_eq_getElem hzl] at hze
    exact Option.some.inj hze
  have h59 := number_ok (t := t.t) (p := t.p) (by omega) (by omega)
  rw [← hz] at h59
  rw [← hs, ← ht]
  have hcase : ∀ q : Bool, lvS r ls s b t = q ↔ (exS t && (decide (ofS r ls t = b) && (!decide (t.t = s.t) || !decide (t.p = s.p)))) = q := fun q => Iff.rfl
  refine R_of_G (F := pf105) rfl rfl rfl ?_
  simp (disch := first | omega | with_unfolding_all rfl) [pf105, env0_eq, ← hs, ← ht]
  refine G_reg_chk ?_ ?_
  · refine (all_cons_ck (ckOne_of rfl ?_) (all_cons_ck (ckOne_of rfl ?_) (all_cons_ck (ckOne_of rfl ?_) (all_cons_ck (ckOne_of rfl ?_) all_nil_ck))))
    all_goals simp (disch := first | omega | with_unfolding_all rfl) [← hs, ← ht]
  simp (disch := first | omega | with_unfolding_all rfl) [← hs, ← ht]
  unfold lvS exS
  by_cases c1 : t.k = 2 <;> by_cases c2 : t.k = 3 <;> by_cases c3 : ofS r ls t = b <;> by_cases c4 : t.t = s.t <;> by_cases c5 : t.p = s.p <;>
    (have h59b := h59; try simp only [c4] at h59b) <;> (try simp only [c5] at h59b) <;>
    simp (disch := first | omega | with_unfolding_all rfl) [c1, c2, c3, c4, c5, h59, h59b, hzg, ← hs, ← ht]

theorem open_ok {r : Rl} {ls : List Sg} (v : Vd r ls) {n1 n2 n3 : Nl} {sh : List Bool} (hsh : sh.length = ls.length) {i : Nat} (hi : i < ls.length) (b : Int) :
    R tb 81 [lst n1 ls, lst n2 (numL r ls), lst n3 sh, .int .i64 i, .int .i64 b] = some (.bool (opB r ls sh ls[i] b)) := by
  have hle := v.le
  obtain ⟨s, hs⟩ : ∃ s, s = ls[i] := ⟨_, rfl⟩
  refine R_of_G (F := pf81) rfl rfl rfl ?_
  simp (disch := first | omega | with_unfolding_all rfl) [pf81, env0_eq]
  refine G_scanK [0, 1, 2, 3, 4, 14] (fun (j : Nat) e h => get e 15 = .int .i64 (j : Int) ∧ get e 11 = .bool (!anyN (lvB r ls s b) 0 j) ∧ h = []) (fun j => lvB r ls s b j && sh.getD j false) ls.length 0 ⟨by simp, by simp [anyN], rfl⟩ (Nat.zero_le _) ?_
  rintro j e h - hj hz hk ⟨g15, g11, rfl⟩
  simp at hk
  simp (disch := first | omega | with_unfolding_all rfl) [hk, g15]
  refine G_brd (fun d => ?_) (fun d => ?_)
  · have hjl : j < ls.length := by omega
    have h105 := leaves_ok v (n1 := n1) (n2 := n2) hi hjl b
    have hsj : sh.getD j false = sh[j] := by rw [List.getD_eq_getElem?_getD, List.getElem?_eq_getElem (by omega)]; rfl
    have hlv : lvB r ls s b j = lvS r ls ls[i] b ls[j] := by unfold lvB; rw [List.getElem?_eq_getElem hjl, hs]
    rw [← hlv] at h105
    have han : anyN (lvB r ls s b) 0 (j + 1) = (anyN (lvB r ls s b) 0 j || lvB r ls s b j) := by
      simp [anyN, List.range'_concat]
    cases c1 : lvB r ls s b j
    · rw [c1] at h105 han
      rw [Bool.or_false] at han
      simp (disch := first | omega | with_unfolding_all rfl) [hk, g15, g11, d, h105, c1, han]
    · rw [c1] at h105 han
      cases c2 : sh[j]
      · simp (disch := first | omega | with_unfolding_all rfl) [hk, g15, g11, d, h105, c1, c2, hsj, han]
      · have ho : opB r ls sh ls[i] b = true := by
          unfold opB
          rw [Bool.or_eq_true]
          exact .inl (anyN_t (i := j) (Nat.zero_le _) hjl (by rw [← hs, c1, hsj, c2]; rfl))
        simp (disch := first | omega | with_unfolding_all rfl) [hk, g15, g11, d, h105, c1, c2, ho]
  · have hjl : j = ls.length := by omega
    subst hjl
    have ho : opB r ls sh ls[i] b = !anyN (lvB r ls s b) 0 ls.length := by
      unfold opB
      rw [← hs, anyN_f (f := fun j => lvB r ls s b j && sh.getD j false) hz]
      rfl
    simp (disch := first | omega | with_unfolding_all rfl) [hk, g15, g11, d, ho]
end Go.Proofs.Ytfocelelbcepnaa
end

section
set_option linter.unusedVariables false
set_option linter.unusedSimpArgs false
set_option maxHeartbeats 8000000
set_option maxRecDepth 20000
namespace Go.Proofs.Ytfocelelbcepnaa
open Go.Proofs.Ytfocelelbcepnaa.PM

structure Ak where
  b : Option (List Int)
  f : Bool
  a : Bool
def akP : Option (List Int) → PV
  | none => .list .nil 1 []
  | some xs => lst .any xs
theorem akP_inj {x y : Option (List Int)} (h : akP x = akP y) : x = y := by
  cases x with
  | none => cases y with
    | none => rfl
    | some ys => simp [akP, lst] at h
  | some xs => cases y with
    | none => simp [akP, lst] at h
    | some ys => rw [(lst_inj h).2]
def akE (x : Ak) : List PV := [akP x.b, .bool x.f, .bool x.a]
theorem akE_inj (x y : Ak) (h : akE x = akE y) : x = y := by
  obtain ⟨a, b, c⟩ := x
  obtain ⟨a', b', c'⟩ := y
  simp only [akE, List.cons.injEq, PV.bool.injEq, and_true] at h
  rw [akP_inj h.1, h.2.1, h.2.2]
theorem akP_one (x : Option (List Int)) : (akP x).one = true := by cases x <;> rfl
theorem akP_pure (x : Option (List Int)) : (akP x).pureB = true := by
  cases x with
  | none => rfl
  | some xs => simp [akP]
theorem akP_clean (x : Option (List Int)) : (akP x).cleanB = true := by
  cases x with
  | none => rfl
  | some xs => simp [akP]
noncomputable instance : Enc Ak where
  sz := 3
  enc := akE
  dec := decOf akE
  cln _ := true
  pos := by decide
  len _ := rfl
  one x := by show ((akP x.b).one && (true && (true && true))) = true; rw [akP_one]; rfl
  pur x := by show (!true || PV.pureLB [akP x.b, .bool x.f, .bool x.a]) = true; simp [PV.pureLB, akP_pure]
  hcln x := by show PV.cleanLB [akP x.b, .bool x.f, .bool x.a] = true; simp [PV.cleanLB, akP_clean]
  dec_enc x := decOf_enc akE_inj x
  enc_dec l x h := enc_decOf h
instance : Flat Ak := ⟨fun _ _ _ x => by cases x with | mk b f a => cases b <;> rfl⟩
@[simp] theorem sz_ak : Enc.sz Ak = 3 := rfl
@[simp] theorem enc_ak (x : Ak) : Enc.enc x = [akP x.b, .bool x.f, .bool x.a] := rfl
@[simp] theorem cln_ak (x : Ak) : Enc.cln x = true := rfl
@[simp] theorem dec_ak (b : Option (List Int)) (f a : Bool) : (Enc.dec [akP b, .bool f, .bool a] : Option Ak) = some ⟨b, f, a⟩ := decOf_enc akE_inj ⟨b, f, a⟩
@[simp] theorem akP_some (xs : List Int) : akP (some xs) = lst .any xs := rfl
@[simp] theorem dec_ak' (xs : List Int) (f a : Bool) : (Enc.dec [lst .any xs, .bool f, .bool a] : Option Ak) = some ⟨some xs, f, a⟩ := decOf_enc akE_inj ⟨some xs, f, a⟩
def akZ : Ak := ⟨none, false, false⟩
@[simp] theorem evMks_ak {e bytes : Nat} {k k' : IntKind} {l c : Int} {H : Hp} (h0 : 0 ≤ l) (h1 : l ≤ c) (h2 : (bytes : Int) * c ≤ 281474976710656) :
    evMks e 3 bytes [.list .nil 1 [], .bool false, .bool false] (.int k l) (.int k' c) H = some (mls Ak H.length 0 l.toNat, H ++ [bk e 0 (List.replicate l.toNat akZ)]) := evMks_eq rfl rfl h0 h1 h2
noncomputable def akS (r : Rl) (ls : List Sg) (held : List Int) (s : Sg) : Ak := ⟨some (byS r ls s), freeS r ls held s, askS s⟩
noncomputable def akN (r : Rl) (ls : List Sg) (held : List Int) (i : Nat) : Ak := match ls[i]? with | some s => akS r ls held s | none => akZ
theorem byS_cases (r : Rl) (ls : List Sg) (s : Sg) : byS r ls s = [] ∨ ∃ n, byS r ls s = [n] := by
  have := byL_len r ls ⟨s.t, s.p, s.o⟩
  unfold byS
  generalize byL r ls ⟨s.t, s.p, s.o⟩ = l at *
  match l, this with
  | [], _ => exact .inl rfl
  | [n], _ => exact .inr ⟨n, rfl⟩
theorem sig_sp {r : Rl} {ls : List Sg} (v : Vd r ls) {s : Sg} (hs : s ∈ ls) : spErr r ⟨s.t, s.p, s.o⟩ = 0 := by
  unfold spErr
  rw [if_pos (v.hs s hs), if_pos (v.ly s hs)]
theorem askers_ok {r : Rl} {ls : List Sg} (v : Vd r ls) (h0 : railErr r = 0) (hb : r.s.length ≤ 3000) {n1 n2 n3 : Nl} (held : List Int) (hh : held.length ≤ 100000) :
    R tb 80 [vR r, lst n1 ls, lst n2 (numL r ls), lst n3 held] = some (lst .any (ls.map (akS r ls held))) := by
  have hle := v.le
  have hfl : fillL (List.replicate ls.length akZ) (akN r ls held) ls.length = ls.map (akS r ls held) := by
    have := fillL_all (z := List.replicate ls.length akZ) (f := akN r ls held) (ys := ls.map (akS r ls held)) (by simp) (fun j hj => by
      have hj' : j < ls.length := by simpa using hj
      simp [akN, hj'])
    simpa using this
  refine R_of_G (F := pf80) rfl rfl rfl ?_
  simp (disch := first | omega | with_unfolding_all rfl) [pf80, env0_eq]
  refine G_loopK [2, 3, 4, 9, 20, 21] (fun (i : Nat) e h => i ≤ ls.length ∧ get e 22 = .int .i64 (i : Int) ∧ h = [bk 110 0 (fillL (List.replicate ls.length akZ) (akN r ls held) i)]) (fun i => ls.length - i) (a₀ := 0) ⟨by omega, by simp, by simp [fillL]⟩ ?_
  rintro i e h hk ⟨hi, g22, rfl⟩
  simp at hk
  simp (disch := first | omega | with_unfolding_all rfl) [hk, g22]
  refine G_brd (fun d => ?_) (fun d => ?_)
  · have hil : i < ls.length := by omega
    obtain ⟨s, hs⟩ : ∃ s, s = ls[i] := ⟨_, rfl⟩
    have hsm : s ∈ ls := by rw [hs]; exact List.getElem_mem hil
    have h65 := next_ok v.g h0 hb ⟨s.t, s.p, s.o⟩
    rw [nextV, if_pos (sig_sp v hsm)] at h65
    have h79 := byP_ok v (nl := n2) ⟨s.t, s.p, s.o⟩
    have hti : (fillL (List.replicate ls.length akZ) (akN r ls held) i).length = ls.length := by simp
    have hnx : (fillL (List.replicate ls.length akZ) (akN r ls held) i).set i (akS r ls held s) = fillL (List.replicate ls.length akZ) (akN r ls held) (i + 1) := by
      simp [fillL, akN, hil, hs]
    obtain ⟨B, hB⟩ : ∃ B, B = byL r ls ⟨s.t, s.p, s.o⟩ := ⟨_, rfl⟩
    have hb1 := byS_cases r ls s
    unfold akS byS at hnx
    unfold byS at hb1
    rw [← hB] at hb1 h79 hnx
    have hkk : (decide (s.k = 1) || decide (s.k = 3)) = askS s := rfl
    have hfr : freeS r ls held s = frL held B := by unfold freeS byS; rw [hB]
    have h104 := fun n => intHas_ok (nl := n3) held n hh
    rcases nxtV_cases r ⟨s.t, s.p, s.o⟩ with ⟨q, _⟩ | q <;> rw [q] at h65 h79
    all_goals
      simp (disch := first | omega | with_unfolding_all rfl) [hk, g22, d, ← hs, h65, h79, vR, vSo]
      refine G_reg_chk ?_ ?_
      · refine (all_cons_ck (ckOne_of rfl ?_) (all_cons_ck (ckOne_of rfl ?_) (all_cons_ck (ckOne_of rfl ?_) (all_cons_ck (ckOne_of rfl ?_) (all_cons_ck (ckOne_of rfl ?_) (all_cons_ck (ckOne_of rfl ?_) all_nil_ck))))))
        all_goals (by_cases c : s.k = 1 <;> simp (disch := first | omega | with_unfolding_all rfl) [hk, h79, c, CkQ, gd])
      by_cases c1 : s.k = 1 <;> by_cases c3 : s.k = 3 <;> (try omega) <;> (have hkv := hkk; simp only [c1, c3] at hkv; simp at hkv; rw [hkv] at hnx) <;> rcases hb1 with hb1 | ⟨n, hb1⟩ <;> rw [hb1] at h79 hnx hfr
      all_goals
        try have hl1 : ([n] : List Int).length = 1 := rfl
        rw [hfr] at hnx
        simp only [frL] at hnx
        simp (disch := first | omega | with_unfolding_all rfl) [hk, h79, c1, c3]
        rw [G_unroll]
        simp (disch := first | omega | with_unfolding_all rfl) [hk, h79, c1, c3, h104]
      all_goals first
        | exact ⟨i + 1, by omega, by omega, by omega, by rw [hnx]⟩
        | skip
      all_goals (rw [G_unroll]; simp (disch := first | omega | with_unfolding_all rfl) [hk, h79, c1, c3, h104])
      all_goals exact ⟨i + 1, by omega, by omega, by omega, by rw [hnx]⟩
  · have hil : i = ls.length := by omega
    subst hil
    have hfz := fun (n : Nat) (H : Hp) => frzB_bk (α := Ak) (xs := ls.map (akS r ls held)) (nl' := .any) (n := n) (H := H) (gen := 0) (e := 110) (show ls.length = (ls.map (akS r ls held)).length by simp)
    simp (disch := first | omega | with_unfolding_all rfl) [hk, g22, d, hfl, hfz]
end Go.Proofs.Ytfocelelbcepnaa
end

section
set_option linter.unusedVariables false
set_option linter.unusedSimpArgs false
set_option maxHeartbeats 8000000
set_option maxRecDepth 20000
namespace Go.Proofs.Ytfocelelbcepnaa
open Go.Proofs.Ytfocelelbcepnaa.PM

theorem showsE_ok {r : Rl} {ls : List Sg} {n1 n2 : Nl} {held : List Int} (hb : r.s.length ≤ 3000) (hl : ls.length ≤ 10000) (h : ¬ valErr r ls = 0) : R tb 47 [vR r, lst n1 ls, lst n2 held] = some (.tup [.list .nil 1 [], .int .i64 (valErr r ls)]) := by
  have h19 := validate_ok r n1 ls hb hl
  refine R_of_G (F := pf47) rfl rfl rfl ?_
  simp (disch := first | omega | with_unfolding_all rfl) [pf47, env0_eq, h19, h]
theorem goB_at {r : Rl} {ls : List Sg} {held : List Int} {sh : List Bool} {i : Nat} (hi : i < ls.length) : goB r ls held sh i = goS r ls held sh ls[i] := by
  unfold goB
  rw [List.getElem?_eq_getElem hi]
theorem getD_at {sh : List Bool} {i : Nat} (hi : i < sh.length) : sh.getD i false = sh[i] := by
  rw [List.getD_eq_getElem?_getD, List.getElem?_eq_getElem hi]; rfl
theorem shows_ok {r : Rl} {ls : List Sg} {n1 n2 : Nl} {held : List Int} (hb : r.s.length ≤ 3000) (hl : ls.length ≤ 10000) (hh : held.length ≤ 100000) (h : valErr r ls = 0) : ∃ t, R tb 47 [vR r, lst n1 ls, lst n2 held] = some (.tup [lst .any t, .int .i64 0]) ∧ Shows r ls held t := by
  have v := vd_of h
  have hle := v.le
  have h19 := validate_ok r n1 ls hb hl
  have h58 := nums_ok (nl := n1) v
  have h80 := askers_ok v (val0 h) hb (n1 := n1) (n2 := .any) (n3 := n2) held hh
  obtain ⟨A, hA⟩ : ∃ A, A = ls.map (akS r ls held) := ⟨_, rfl⟩
  have hAl : A.length = ls.length := by rw [hA]; simp
  have hAg : ∀ (i : Nat) (q : i < A.length) (q' : i < ls.length), A[i] = akS r ls held ls[i] := fun i q q' => by simp [hA]
  rw [← hA] at h80
  obtain ⟨v0, h1, t, rfl, h2⟩ := R_ex (T := tb) (f := 47) (F := pf47) (args := [vR r, lst n1 ls, lst n2 held]) (Rq := fun v => ∃ t, v = .tup [lst .any t, .int .i64 0] ∧ Shows r ls held t) rfl rfl rfl (by
    simp (disch := first | omega | with_unfolding_all rfl) [pf47, env0_eq, h19, h, h58, h80]
    refine G_loopK [1, 9, 10, 11] (fun (a : List Bool × Bool) e h => a.1.length = ls.length ∧ get e 12 = .bool a.2 ∧ h = [bk 4 0 a.1] ∧ (∀ t, Till (fun s => passS (goB r ls held) s ls.length) a.1 t → Shows r ls held t) ∧ (a.2 = false → passS (goB r ls held) a.1 ls.length = a.1)) (fun a => ls.length - ctT a.1 + a.2.toNat) (a₀ := (List.replicate ls.length false, true)) ⟨by simp, by simp, rfl, fun t h => h, fun h => by cases h⟩ ?_
    rintro ⟨sh, ag⟩ e h hk ⟨hsl, g12, rfl, hT, hF⟩
    dsimp only at hsl g12 hT hF
    simp at hk
    cases ag
    case false =>
      have hfz := fun (n : Nat) (H : Hp) => frzB_bk (α := Bool) (xs := sh) (nl' := .any) (n := n) (H := H) (gen := 0) (e := 4) (show ls.length = sh.length from hsl.symm)
      have hfin := hT sh (.stop (hF rfl))
      simp (disch := first | omega | with_unfolding_all rfl) [hk, g12, hfz]
      exact ⟨sh, rfl, hfin⟩
    simp (disch := first | omega | with_unfolding_all rfl) [hk, g12]
    refine G_loopK [1, 9, 10, 11, 36, 37] (fun (i : Nat) e h => i ≤ ls.length ∧ get e 38 = .int .i64 (i : Int) ∧ get e 12 = .bool (decide (ctT sh < ctT (passS (goB r ls held) sh i))) ∧ h = [bk 4 0 (passS (goB r ls held) sh i)]) (fun i => ls.length - i) (a₀ := 0) ⟨by omega, by simp, by simp [passS_zero], rfl⟩ ?_
    rintro i e2 h2 hk2 ⟨hi, g38, g12b, rfl⟩
    simp at hk2
    obtain ⟨si, hsi⟩ : ∃ si, si = passS (goB r ls held) sh i := ⟨_, rfl⟩
    have hsil : si.length = ls.length := by rw [hsi, passS_len, hsl]
    have hsc := passS_succ (goB r ls held) sh i
    rw [← hsi] at g12b hsc ⊢
    simp (disch := first | omega | with_unfolding_all rfl) [hk2, g38]
    refine G_brd (fun d => ?_) (fun d => ?_)
    · have hil : i < ls.length := by omega
      obtain ⟨s, hs⟩ : ∃ s, s = ls[i] := ⟨_, rfl⟩
      have hst := getD_at (sh := si) (i := i) (by omega)
      have hgo := goB_at (r := r) (held := held) (sh := si) hil
      rw [← hs] at hgo
      unfold goS at hgo
      have hct := fun (q : si[i]? = some false) => ctT_set q
      have hAi := hAg i (by omega) hil
      rw [← hs] at hAi
      cases c1 : si[i]
      case true =>
        rw [stepS_on _ (by rw [hst, c1])] at hsc
        simp (disch := first | omega | with_unfolding_all rfl) [hk2, g38, d, hAi, akS, c1]
        exact ⟨by rw [g12b]; rfl, i + 1, by omega, by omega, by omega, by rw [hsc]; exact g12b, by rw [hsc]⟩
      rw [c1] at hst
      cases c2 : freeS r ls held s
      case false =>
        rw [c2, Bool.false_and] at hgo
        rw [stepS_no _ hst hgo] at hsc
        simp (disch := first | omega | with_unfolding_all rfl) [hk2, g38, d, hAi, akS, c1, c2]
        exact ⟨by rw [g12b]; rfl, i + 1, by omega, by omega, by omega, by rw [hsc]; exact g12b, by rw [hsc]⟩
      obtain ⟨n, hn⟩ : ∃ n, byS r ls s = [n] := by
        rcases byS_cases r ls s with q | q
        · unfold freeS at c2
          rw [q] at c2
          cases c2
        · exact q
      have h81 := open_ok v (n1 := n1) (n2 := .any) (n3 := .bor) hsil hil n
      rw [← hs] at h81
      rw [c2, hn, Bool.true_and] at hgo
      dsimp only at hgo
      rw [stepS_off _ hst, hgo] at hsc
      have hl1 : ([n] : List Int).length = 1 := rfl
      have hsi? : si[i]? = some false := by rw [List.getElem?_eq_getElem (by omega), c1]
      have hmono := (passS_ct (goB r ls held) sh i).1
      rw [← hsi] at hmono
      simp (disch := first | omega | with_unfolding_all rfl) [hk2, g38, d, hAi, akS, c1, c2, hn]
      rw [G_unroll]
      have hg2 : ∀ o : Bool, decide (ctT sh < ctT (si.set i o)) = (decide (ctT sh < ctT si) || o) := by
        intro o
        cases o
        · rw [set_same hst, Bool.or_false]
        · rw [ctT_set hsi?, decide_eq_true (by omega)]; simp
      cases c3 : askS s
      case false =>
        rw [c3] at hsc
        simp only [Bool.not_false, Bool.true_or] at hsc
        cases c4 : decide (ctT sh < ctT si) <;> rw [c4] at g12b <;>
        (simp (disch := first | omega | with_unfolding_all rfl) [hk2, g38, d, hAi, c1, c2, c3, hn, h81, g12b]
         rw [G_unroll]
         simp (disch := first | omega | with_unfolding_all rfl) [hk2, g38, d, hAi, c1, c2, c3, hn, h81, g12b]
         exact ⟨i + 1, by omega, by omega, by omega, by rw [hsc, ctT_set hsi?]; omega, by rw [hsc]⟩)
      case true =>
        cases c5 : opB r ls si s n <;> rw [c5] at h81 hsc <;> rw [c3] at hsc <;> simp only [Bool.not_true, Bool.false_or] at hsc <;>
        cases c4 : decide (ctT sh < ctT si) <;> rw [c4] at g12b <;>
        (simp (disch := first | omega | with_unfolding_all rfl) [hk2, g38, d, hAi, c1, c2, c3, hn, h81, g12b]
         rw [G_unroll]
         simp (disch := first | omega | with_unfolding_all rfl) [hk2, g38, d, hAi, c1, c2, c3, hn, h81, g12b]
         exact ⟨i + 1, by omega, by omega, by omega, by rw [hsc]; first | (rw [ctT_set hsi?]; omega) | (rw [set_same hst]; simp at c4; omega), by rw [hsc]⟩)
    · have hil : i = ls.length := by omega
      subst hil
      simp (disch := first | omega | with_unfolding_all rfl) [hk2, g38, d]
      refine ⟨by rw [g12b]; rfl, ?_⟩
      obtain ⟨hm1, hm2⟩ := passS_ct (goB r ls held) sh ls.length
      rw [← hsi] at hm1 hm2
      have hcl := ctT_le si
      by_cases c : ctT sh < ctT si
      · rw [decide_eq_true c] at g12b
        refine ⟨si, .inr ⟨by omega, hsil, g12b, rfl, fun t ht => hT t (.go (fun q => ?_) (by rw [← hsi]; exact ht))⟩⟩
        rw [← hsi] at q
        rw [q] at c
        omega
      · rw [decide_eq_false c] at g12b
        have e := hm2 (by omega)
        refine ⟨si, .inl ⟨by rw [e]; omega, hsil, g12b, rfl, fun t ht => hT t (by rw [← e]; exact ht), ?_⟩⟩
        rw [e, ← hsi, e])
  exact ⟨t, h1, h2⟩
end Go.Proofs.Ytfocelelbcepnaa
end
