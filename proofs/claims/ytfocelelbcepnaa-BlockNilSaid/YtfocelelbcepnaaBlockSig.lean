/- Blocks: signals, their order, where one is. -/
import Derived.Test.YtfocelelbcepnaaBlockBase
set_option linter.unusedVariables false
set_option linter.unusedSimpArgs false
set_option maxHeartbeats 2000000
set_option maxRecDepth 20000
namespace Go.Proofs.Ytfocelelbcepnaa
open Go.Proofs.Ytfocelelbcepnaa.PM

/-- A signal. -/
structure Sg where
  t : Int
  p : Int
  o : Int
  k : Int
instance : Enc Sg where
  sz := 4
  enc l := [.int .i64 l.t, .int .i64 l.p, .int .i64 l.o, .int .i64 l.k]
  dec | [.int .i64 a, .int .i64 b, .int .i64 c, .int .i64 d] => some ⟨a, b, c, d⟩ | _ => none
  cln _ := true
  pos := by decide
  len _ := rfl
  one _ := rfl
  pur _ := rfl
  hcln _ := rfl
  dec_enc _ := rfl
  enc_dec l x h := by
    split at h
    · simp only [Option.some.injEq] at h; subst h; rfl
    · cases h
instance : Flat Sg := ⟨fun _ _ _ _ => rfl⟩
@[simp] theorem sz_sg : Enc.sz Sg = 4 := rfl
@[simp] theorem enc_sg (l : Sg) : Enc.enc l = [.int .i64 l.t, .int .i64 l.p, .int .i64 l.o, .int .i64 l.k] := rfl
@[simp] theorem cln_sg (l : Sg) : Enc.cln l = true := rfl
@[simp] theorem dec_sg (a b c d : Int) : (Enc.dec [PV.int .i64 a, .int .i64 b, .int .i64 c, .int .i64 d] : Option Sg) = some ⟨a, b, c, d⟩ := rfl
abbrev vS (l : Sg) : PV := .agg [.int .i64 l.t, .int .i64 l.p, .int .i64 l.o, .int .i64 l.k]

theorem isNaN_ok (x : Int) : R tb 106 [.int .i64 x] = some (.bool false) := by
  refine R_of_G (F := pf106) rfl rfl rfl ?_
  simp (disch := omega) [pf106, env0_eq]
def cmp (x y : Int) : Int := if x < y then -1 else if y < x then 1 else 0
theorem cmpI_ok (x y : Int) : R tb 84 [.int .i64 x, .int .i64 y] = some (.int .i64 (cmp x y)) := by
  refine R_of_G (F := pf84) rfl rfl rfl ?_
  simp (disch := omega) [pf84, env0_eq, isNaN_ok]
  refine G_brd (fun h => ?_) (fun h => ?_)
  · simp [h, cmp]
  · simp [h, cmp]
    refine G_brd (fun h' => ?_) (fun h' => ?_)
    · simp [h', cmp]
    · simp [h', cmp]
theorem or_ok (nl : Nl) (xs : List Int) (hx : xs.length < 1000) : R tb 83 [lst nl xs] = some (.int .i64 ((xs.find? (· ≠ 0)).getD 0)) := by
  refine R_of_G (F := pf83) rfl rfl rfl ?_
  simp (disch := omega) [pf83, env0_eq]
  refine G_loop (fun i e h => i ≤ xs.length ∧ (∀ j, j < i → xs[j]? = some 0) ∧ h = [] ∧ get e 3 = .int .i64 0 ∧ get e 6 = lst nl xs ∧ get e 7 = .int .i64 xs.length ∧ get e 8 = .int .i64 (i : Int)) (fun i => xs.length - i) (a₀ := 0) ?_ ?_
  · simp
  rintro i e h ⟨hi, hz, rfl, h3, h6, h7, h8⟩
  simp (disch := omega) [h3, h6, h7, h8]
  refine G_brd (fun h => ?_) (fun h => ?_)
  · simp (disch := omega) [h]
    refine G_brd (fun h' => ?_) (fun h' => ?_)
    · simp (disch := omega) [h']
      refine ⟨i + 1, by omega, by omega, fun j hj => ?_, by omega⟩
      rcases Nat.lt_succ_iff_lt_or_eq.1 hj with h1 | rfl
      · exact hz j h1
      · simp [h, h']
    · simp (disch := omega) [h']
      have : xs.find? (fun x => !decide (x = 0)) = some xs[i] := by
        rw [List.find?_eq_some_iff_getElem]
        refine ⟨by simpa using h', i, h, rfl, fun j hj => ?_⟩
        have := hz j hj
        rw [List.getElem?_eq_getElem (by omega)] at this
        simpa using this
      simp [this]
  · simp (disch := omega) [h]
    have : xs.find? (fun x => !decide (x = 0)) = none := by
      rw [List.find?_eq_none]
      intro x hx
      obtain ⟨j, hj, rfl⟩ := List.getElem_of_mem hx
      have := hz j (by omega)
      rw [List.getElem?_eq_getElem (by omega)] at this
      simpa using this
    simp [this]
theorem or3_ok (nl : Nl) (a b c : Int) : R tb 83 [lst nl [a, b, c]] = some (.int .i64 (if a = 0 then (if b = 0 then c else b) else a)) := by
  rw [or_ok nl [a, b, c] (by simp)]
  by_cases h : a = 0 <;> by_cases h' : b = 0 <;> by_cases h2 : c = 0 <;> simp [h, h', h2]
def cmpS (a b : Sg) : Int := if cmp a.t b.t = 0 then (if cmp a.p b.p = 0 then cmp a.o b.o else cmp a.p b.p) else cmp a.t b.t
theorem compare_ok (a b : Sg) : R tb 53 [vS a, vS b] = some (.int .i64 (cmpS a b)) := by
  refine R_of_G (F := pf53) rfl rfl rfl ?_
  simp (disch := omega) [pf53, env0_eq, vS, cmpI_ok, or3_ok, cmpS]
/-- One stands ahead of the other. -/
def ltS (a b : Sg) : Prop := a.t < b.t ∨ (a.t = b.t ∧ (a.p < b.p ∨ (a.p = b.p ∧ a.o < b.o)))
def eqS (a b : Sg) : Prop := a.t = b.t ∧ a.p = b.p ∧ a.o = b.o
instance (a b : Sg) : Decidable (ltS a b) := by unfold ltS; infer_instance
instance (a b : Sg) : Decidable (eqS a b) := by unfold eqS; infer_instance
theorem ltS_trans {a b c : Sg} (h1 : ltS a b) (h2 : ltS b c) : ltS a c := by unfold ltS at *; omega
theorem cmpS_lt (a b : Sg) : cmpS a b < 0 ↔ ltS a b := by
  unfold ltS
  simp only [cmpS, cmp]
  repeat' split
  all_goals omega
theorem cmpS_eq (a b : Sg) : cmpS a b = 0 ↔ eqS a b := by
  unfold eqS
  simp only [cmpS, cmp]
  repeat' split
  all_goals omega
theorem less_ok (a b : Sg) : R tb 50 [vS a, vS b] = some (.bool (decide (ltS a b))) := by
  refine R_of_G (F := pf50) rfl rfl rfl ?_
  simp (disch := omega) [pf50, env0_eq, vS]
  by_cases h1 : a.t = b.t
  · simp [h1, ltS]
    by_cases h2 : a.p = b.p
    · simp [h2]
    · simp [h2]
  · simp [h1, ltS]
theorem wrapu_in {a : Int} (h1 : 0 ≤ a) (h2 : a ≤ 9223372036854775807) : IntKind.u64.wrap a = a := by
  simp only [IntKind.wrap, IntKind.bits, IntKind.signed]
  simp
  omega
/-- The place of a signal, or where it would be. -/
def posS (l : Sg) (ls : List Sg) : Nat := ls.findIdx fun x => !decide (ltS x l)
def isAt (l : Sg) (ls : List Sg) : Bool := match ls[posS l ls]? with | some x => decide (eqS x l) | none => false
theorem posS_le (l : Sg) (ls : List Sg) : posS l ls ≤ ls.length := List.findIdx_le_length
theorem posS_lt {l : Sg} {ls : List Sg} {j : Nat} (h : j < ls.length) (hj : j < posS l ls) : ltS ls[j] l := by
  have := List.not_of_lt_findIdx hj
  simpa only [Bool.not_eq_false, Bool.not_eq_true', Bool.not_eq_false', decide_eq_true_eq] using this
theorem posS_ge {l : Sg} {ls : List Sg} (hs : ls.Pairwise ltS) {j : Nat} (h : j < ls.length) (hj : posS l ls ≤ j) : ¬ ltS ls[j] l := by
  rw [List.pairwise_iff_getElem] at hs
  have h3 : posS l ls < ls.length := by omega
  have h4 := List.findIdx_getElem (w := h3)
  have h5 : ¬ ltS ls[posS l ls] l := by
    simp only [Bool.not_eq_true', decide_eq_false_iff_not] at h4
    exact h4
  intro h6
  by_cases e : j = posS l ls
  · subst e
    exact h5 h6
  · exact h5 (ltS_trans (hs _ j h3 h (by omega)) h6)
theorem search_ok {nl : Nl} {ls : List Sg} {l : Sg} (hl : ls.length ≤ 10000) (hs : ls.Pairwise ltS) :
    R tb 91 [lst nl ls, vS l, .clo (.func 53) [] []] = some (.tup [.int .i64 (posS l ls), .bool (isAt l ls)]) := by
  obtain ⟨p, hpd⟩ : ∃ p, p = posS l ls := ⟨_, rfl⟩
  have hp : p ≤ ls.length := by rw [hpd]; exact posS_le _ _
  have h1 : ∀ j (h : j < ls.length), j < p → ltS ls[j] l := fun j h hj => posS_lt h (by rw [← hpd]; exact hj)
  have h2 : ∀ j (h : j < ls.length), p ≤ j → ¬ ltS ls[j] l := fun j h hj => posS_ge hs h (by rw [← hpd]; exact hj)
  have hAt : isAt l ls = (match ls[p]? with | some x => decide (eqS x l) | none => false) := by rw [hpd]; rfl
  rw [← hpd]
  refine R_of_G (F := pf91) rfl rfl rfl ?_
  simp (disch := first | omega | with_unfolding_all rfl) [pf91, env0_eq]
  refine G_loopK [0, 2, 4, 8] (fun (a : Nat × Nat) e h => a.1 ≤ p ∧ p ≤ a.2 ∧ a.2 ≤ ls.length ∧ get e 9 = .int .i64 (a.1 : Int) ∧ get e 10 = .int .i64 (a.2 : Int) ∧ h = []) (fun a => a.2 - a.1) (a₀ := (0, ls.length)) ?_ ?_
  · simp; omega
  rintro ⟨i, j⟩ e h hk ⟨hi, hj, hjl, g9, g10, rfl⟩
  simp at hk
  dsimp only at hi hj hjl
  simp (disch := first | omega | with_unfolding_all rfl) [hk, g9, g10]
  refine G_brd (fun h => ?_) (fun h => ?_)
  · obtain ⟨m, hmD⟩ : ∃ m, m = (i + j) / 2 := ⟨_, rfl⟩
    have hmi : i ≤ m ∧ m < j := by omega
    have hm : IntKind.i64.wrap ((IntKind.u64.wrap ((i : Int) + (j : Int))).fdiv (2 ^ min 1 IntKind.u64.bits)) = (m : Int) := by
      rw [wrapu_in (a := (i : Int) + (j : Int)) (by omega) (by omega), show ((2 : Int) ^ min 1 IntKind.u64.bits) = 2 from rfl, Int.fdiv_eq_ediv_of_nonneg _ (by omega), IntKind.wrap_i64]
      omega
    have hcl := compare_ok ls[m] l
    obtain ⟨c, hc⟩ : ∃ c, c = cmpS ls[m] l := ⟨_, rfl⟩
    rw [← hc] at hcl
    have hclt : c < 0 ↔ ltS ls[m] l := by rw [hc]; exact cmpS_lt _ _
    simp only [vS] at hcl
    simp (disch := first | omega | with_unfolding_all rfl) [hk, g9, g10, hm, h, hcl]
    refine G_brd (fun h3 => ?_) (fun h3 => ?_)
    · have h4 := hclt.1 h3
      have h5 : m < p := by
        apply Nat.lt_of_not_le
        intro q
        exact h2 m (by omega) q h4
      simp (disch := first | omega | with_unfolding_all rfl) [hk, g9, g10]
      exact ⟨m + 1, j, by omega, by omega, by omega, by omega, by omega, by omega⟩
    · have h4 : ¬ ltS ls[m] l := fun q => h3 (hclt.2 q)
      have h5 : p ≤ m := by
        apply Nat.le_of_not_lt
        intro q
        exact h4 (h1 m (by omega) q)
      simp (disch := first | omega | with_unfolding_all rfl) [hk, g9, g10]
      exact ⟨i, m, by omega, by omega, by omega, by omega, by omega, by omega⟩
  · have hip : i = p := by omega
    subst hip
    rw [hAt]
    clear hpd hAt
    simp (disch := first | omega | with_unfolding_all rfl) [hk, g9, g10, h]
    refine G_grdd (fun h3 => ?_) (fun h3 => ?_)
    · have hcl := compare_ok ls[i] l
      have hce := cmpS_eq ls[i] l
      obtain ⟨c, hc⟩ : ∃ c, c = cmpS ls[i] l := ⟨_, rfl⟩
      rw [← hc] at hcl hce
      simp only [vS] at hcl
      have hf : decide (eqS ls[i] l) = decide (c = 0) := by simp [hce]
      simp (disch := first | omega | with_unfolding_all rfl) [hk, g9, g10, h3, hcl, hf]
    · simp (disch := first | omega | with_unfolding_all rfl) [hk, g9, g10, h3]
theorem at_ok {nl : Nl} {ls : List Sg} {l : Sg} (hl : ls.length ≤ 10000) (hs : ls.Pairwise ltS) : R tb 61 [lst nl ls, vS l] = some (.tup [.int .i64 (posS l ls), .bool (isAt l ls)]) := by
  refine R_of_G (F := pf61) rfl rfl rfl ?_
  have := search_ok (nl := nl) (l := l) hl hs
  simp only [vS] at this
  simp (disch := first | omega | with_unfolding_all rfl) [pf61, env0_eq, this]
theorem isAt_iff {l : Sg} {ls : List Sg} (hs : ls.Pairwise ltS) : isAt l ls = true ↔ ∃ x ∈ ls, eqS x l := by
  unfold isAt
  constructor
  · intro h
    split at h
    · rename_i x hx
      exact ⟨x, List.mem_of_getElem? hx, by simpa using h⟩
    · cases h
  · rintro ⟨x, hx, he⟩
    obtain ⟨j, hj, rfl⟩ := List.getElem_of_mem hx
    have h1 : posS l ls = j := by
      rcases Nat.lt_trichotomy (posS l ls) j with h | h | h
      · exfalso
        have h2 := posS_ge hs (l := l) (j := posS l ls) (by omega) (Nat.le_refl _)
        rw [List.pairwise_iff_getElem] at hs
        have := hs (posS l ls) j (by omega) hj h
        unfold ltS eqS at *
        omega
      · exact h
      · exfalso
        have := posS_lt hj h
        unfold ltS eqS at *
        omega
    rw [h1, List.getElem?_eq_getElem hj]
    simpa using he
end Go.Proofs.Ytfocelelbcepnaa
