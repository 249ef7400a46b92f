/- Links: types, which links are right. -/
import Derived.Test.YtbkhmgcfgfcilaaFlowACode
set_option linter.unusedVariables false
set_option linter.unusedSimpArgs false
namespace Go.Proofs.Ytbkhmgcfgfcilaa
open Go.Proofs.Ytbkhmgcfgfcilaa.PM

theorem known_ok : R tb 7 [] = some (.bool true) := R_of (n := 300) (by kernel_rfl)

structure Lk where
  fr : Int
  to : Int
  room : Int
instance : Enc Lk where
  sz := 3
  enc l := [.int .i64 l.fr, .int .i64 l.to, .int .i64 l.room]
  dec | [.int .i64 a, .int .i64 b, .int .i64 c] => some ⟨a, b, c⟩ | _ => none
  cln _ := true
  pos := by decide
  len _ := rfl
  one _ := rfl
  pur _ := rfl
  hcln _ := rfl
  dec_enc _ := rfl
  enc_dec l x h := by
    split at h
    · simp only [Option.some.injEq] at h; subst h; rfl
    · cases h
instance : Flat Lk := ⟨fun _ _ _ _ => rfl⟩
@[simp] theorem sz_lk : Enc.sz Lk = 3 := rfl
@[simp] theorem enc_lk (l : Lk) : Enc.enc l = [.int .i64 l.fr, .int .i64 l.to, .int .i64 l.room] := rfl
abbrev vLk (l : Lk) : PV := .agg [.int .i64 l.fr, .int .i64 l.to, .int .i64 l.room]

set_option maxHeartbeats 400000
theorem isNaN_ok (x : Int) : R tb 35 [.int .i64 x] = some (.bool false) := by
  refine R_of_G (F := pf35) rfl rfl rfl ?_
  simp (disch := omega) [pf35, env0_eq]

def wi (n b : Int) : Bool := decide (0 ≤ n ∧ n ≤ b)
theorem within_ok (n b : Int) : R tb 19 [.int .i64 n, .int .i64 b] = some (.bool (wi n b)) := by
  unfold wi
  refine R_of_G (F := pf19) rfl rfl rfl ?_
  simp (disch := omega) [pf19, env0_eq]
  refine G_grdd (fun h => ?_) (fun h => ?_)
  · simp (disch := omega) [h]
  · simp (disch := omega) [h]
def cmp (x y : Int) : Int := if x < y then -1 else if y < x then 1 else 0
theorem compare_ok (x y : Int) : R tb 30 [.int .i64 x, .int .i64 y] = some (.int .i64 (cmp x y)) := by
  refine R_of_G (F := pf30) rfl rfl rfl ?_
  simp (disch := omega) [pf30, env0_eq, isNaN_ok]
  refine G_brd (fun h => ?_) (fun h => ?_)
  · simp [h, cmp]
  · simp [h, cmp]
    refine G_brd (fun h' => ?_) (fun h' => ?_)
    · simp [h', cmp]
    · simp [h', cmp]
theorem or_ok (nl : Nl) (xs : List Int) (hx : xs.length < 1000) : R tb 31 [lst nl xs] = some (.int .i64 ((xs.find? (· ≠ 0)).getD 0)) := by
  refine R_of_G (F := pf31) rfl rfl rfl ?_
  simp (disch := omega) [pf31, env0_eq]
  refine G_loop (fun i e h => i ≤ xs.length ∧ (∀ j, j < i → xs[j]? = some 0) ∧ h = [] ∧ get e 3 = .int .i64 0 ∧ get e 6 = lst nl xs ∧ get e 7 = .int .i64 xs.length ∧ get e 8 = .int .i64 (i : Int)) (fun i => xs.length - i) (a₀ := 0) ?_ ?_
  · simp
  rintro i e h ⟨hi, hz, rfl, h3, h6, h7, h8⟩
  simp (disch := omega) [h3, h6, h7, h8]
  refine G_brd (fun h => ?_) (fun h => ?_)
  · simp (disch := omega) [h]
    refine G_brd (fun h' => ?_) (fun h' => ?_)
    · simp (disch := omega) [h']
      refine ⟨i + 1, by omega, by omega, fun j hj => ?_, by omega⟩
      rcases Nat.lt_succ_iff_lt_or_eq.1 hj with h1 | rfl
      · exact hz j h1
      · simp [h, h']
    · simp (disch := omega) [h']
      have : xs.find? (fun x => !decide (x = 0)) = some xs[i] := by
        rw [List.find?_eq_some_iff_getElem]
        refine ⟨by simpa using h', i, h, rfl, fun j hj => ?_⟩
        have := hz j hj
        rw [List.getElem?_eq_getElem (by omega)] at this
        simpa using this
      simp [this]
  · simp (disch := omega) [h]
    have : xs.find? (fun x => !decide (x = 0)) = none := by
      rw [List.find?_eq_none]
      intro x hx
      obtain ⟨j, hj, rfl⟩ := List.getElem_of_mem hx
      have := hz j (by omega)
      rw [List.getElem?_eq_getElem (by omega)] at this
      simpa using this
    simp [this]
theorem or2_ok (nl : Nl) (a b : Int) : R tb 31 [lst nl [a, b]] = some (.int .i64 (if a = 0 then b else a)) := by
  rw [or_ok nl [a, b] (by simp)]
  by_cases h : a = 0 <;> by_cases h' : b = 0 <;> simp [h, h']
def cmpLk (a b : Lk) : Int := if cmp a.fr b.fr = 0 then cmp a.to b.to else cmp a.fr b.fr
theorem compareLinks_ok (a b : Lk) : R tb 26 [vLk a, vLk b] = some (.int .i64 (cmpLk a b)) := by
  refine R_of_G (F := pf26) rfl rfl rfl ?_
  simp (disch := omega) [pf26, env0_eq, vLk, compare_ok, or2_ok, cmpLk]
def lessLk (a b : Lk) : Bool := if a.fr = b.fr then decide (a.to < b.to) else decide (a.fr < b.fr)
theorem less_ok (a b : Lk) : R tb 23 [vLk a, vLk b] = some (.bool (lessLk a b)) := by
  refine R_of_G (F := pf23) rfl rfl rfl ?_
  simp (disch := omega) [pf23, env0_eq, vLk]
  refine G_brd (fun h => ?_) (fun h => ?_) <;> simp [h, lessLk]
theorem less_cmp (a b : Lk) : lessLk a b = decide (cmpLk a b < 0) := by
  simp only [lessLk, cmpLk, cmp]
  repeat' split
  all_goals simp
  all_goals omega
def badAt (ls : List Lk) (i : Nat) : Bool := match ls[i]? with
  | none => false
  | some l => decide (l.room < 1) || (decide (1000000 < l.room) || (decide (l.fr = l.to) || (decide (0 < i) && !(match ls[i - 1]? with | some p => lessLk p l | none => true))))
def outAt (n : Int) (ls : List Lk) (i : Nat) : Bool := match ls[i]? with
  | none => false
  | some l => decide (l.fr < 0) || (decide (n ≤ l.fr) || (decide (l.to < 0) || decide (n ≤ l.to)))
def valErr (n : Int) (ls : List Lk) : Int :=
  if 40 < n then 4 else if n < 0 then 1 else if (List.range ls.length).any (badAt ls) then 1 else if (List.range ls.length).any (outAt n ls) then 2 else 0

theorem any_t {f : Nat → Bool} {n i : Nat} (h : i < n) (hf : f i = true) : (List.range n).any f = true := List.any_eq_true.2 ⟨i, List.mem_range.2 h, hf⟩
theorem any_f {f : Nat → Bool} {n : Nat} (h : ∀ i, i < n → f i = false) : (List.range n).any f = false := by
  rw [List.any_eq_false]
  intro i hi
  simp [h i (List.mem_range.1 hi)]

theorem refValidate_ok (n : Int) (nl : Nl) (ls : List Lk) (hl : ls.length ≤ 10000) : R tb 21 [.int .i64 n, lst nl ls] = some (.int .i64 (valErr n ls)) := by
  refine R_of_G (F := pf21) rfl rfl rfl ?_
  simp (disch := omega) [pf21, env0_eq]
  refine G_brd (fun h1 => ?_) (fun h1 => ?_)
  · simp [h1, valErr]
  simp [h1]
  refine G_brd (fun h2 => ?_) (fun h2 => ?_)
  · simp [h1, h2, valErr]
  simp [h2]
  refine G_loop (fun i e h => i ≤ ls.length ∧ (∀ j, j < i → badAt ls j = false) ∧ h = [] ∧ get e 0 = .int .i64 n ∧ get e 1 = lst nl ls ∧ get e 5 = .int .i64 (i : Int)) (fun i => ls.length - i) (a₀ := 0) ?_ ?_
  · simp
  rintro i e h ⟨hi, hz, rfl, g0, g1, g5⟩
  simp (disch := omega) [g0, g1, g5]
  refine G_brd (fun h => ?_) (fun h => ?_)
  · simp (disch := omega) [h]
    repeat' (first | with_reducible refine G_grdn (fun h_ => ?_) (fun h_ => ?_) | with_reducible refine G_grdd (fun h_ => ?_) (fun h_ => ?_) | with_reducible refine G_brd (fun h_ => ?_) (fun h_ => ?_) | with_reducible refine G_br (fun h_ => ?_) (fun h_ => ?_) | with_reducible refine G_grd (fun h_ => ?_) (fun h_ => ?_) | simp (disch := omega) [*, less_ok])
    all_goals first
      | exact ⟨i + 1, by omega, by omega, fun j hj => by
          rcases Nat.lt_succ_iff_lt_or_eq.1 hj with h1 | rfl
          · exact hz j h1
          · simp (disch := omega) [badAt, *], by omega⟩
      | (have hb : badAt ls i = true := by simp (disch := omega) [badAt, *]
         simp [valErr, *, any_t h hb])
  · simp (disch := omega) [h]
    refine G_loop (fun i e h => i ≤ ls.length ∧ (∀ j, j < i → outAt n ls j = false) ∧ h = [] ∧ get e 0 = .int .i64 n ∧ get e 1 = lst nl ls ∧ get e 7 = .int .i64 (i : Int)) (fun i => ls.length - i) (a₀ := 0) ?_ ?_
    · simp
    rintro i' e' h' ⟨hi', hz', rfl, g0', g1', g7'⟩
    have hb := any_f (f := badAt ls) (n := ls.length) fun j hj => hz j (by omega)
    simp (disch := omega) [g0', g1', g7']
    refine G_brd (fun h' => ?_) (fun h' => ?_)
    · simp (disch := omega) [h']
      repeat' (first | with_reducible refine G_grdn (fun h_ => ?_) (fun h_ => ?_) | with_reducible refine G_grdd (fun h_ => ?_) (fun h_ => ?_) | with_reducible refine G_brd (fun h_ => ?_) (fun h_ => ?_) | with_reducible refine G_br (fun h_ => ?_) (fun h_ => ?_) | with_reducible refine G_grd (fun h_ => ?_) (fun h_ => ?_) | simp (disch := omega) [*, less_ok])
      all_goals first
        | exact ⟨i' + 1, by omega, by omega, fun j hj => by
            rcases Nat.lt_succ_iff_lt_or_eq.1 hj with h1 | rfl
            · exact hz' j h1
            · simp [outAt, *], by omega⟩
        | (have hb : outAt n ls i' = true := by simp [outAt, *]
           simp [valErr, *, any_t h' hb])
    · have hb' := any_f (f := outAt n ls) (n := ls.length) fun j hj => hz' j (by omega)
      simp (disch := omega) [h', valErr, h1, h2, hb, hb']

theorem validate_ok (n : Int) (nl : Nl) (ls : List Lk) (hl : ls.length ≤ 10000) : R tb 17 [.int .i64 n, lst nl ls] = some (.int .i64 (valErr n ls)) := by
  refine R_of_G (F := pf17) rfl rfl rfl ?_
  simp (disch := omega) [pf17, env0_eq]
  refine G_brd (fun h1 => ?_) (fun h1 => ?_)
  · simp [h1, valErr]
  simp [h1]
  refine G_brd (fun h2 => ?_) (fun h2 => ?_)
  · simp [h1, h2, valErr]
  simp [h2]
  refine G_loop (fun i e h => i ≤ ls.length ∧ (∀ j, j < i → badAt ls j = false) ∧ h = [] ∧ get e 0 = .int .i64 n ∧ get e 1 = lst nl ls ∧ get e 15 = lst nl ls ∧ get e 16 = .int .i64 (ls.length : Int) ∧ get e 17 = .int .i64 (i : Int)) (fun i => ls.length - i) (a₀ := 0) ?_ ?_
  · simp
  rintro i e h ⟨hi, hz, rfl, g0, g1, g15, g16, g17⟩
  simp (disch := omega) [g0, g1, g15, g16, g17]
  refine G_brd (fun h => ?_) (fun h => ?_)
  · simp (disch := omega) [h]
    repeat' (first | with_reducible refine G_grdn (fun h_ => ?_) (fun h_ => ?_) | with_reducible refine G_grdd (fun h_ => ?_) (fun h_ => ?_) | with_reducible refine G_brd (fun h_ => ?_) (fun h_ => ?_) | with_reducible refine G_br (fun h_ => ?_) (fun h_ => ?_) | with_reducible refine G_grd (fun h_ => ?_) (fun h_ => ?_) | simp (disch := omega) [*, compareLinks_ok])
    all_goals first
      | exact ⟨i + 1, by omega, by omega, fun j hj => by
          rcases Nat.lt_succ_iff_lt_or_eq.1 hj with h1 | rfl
          · exact hz j h1
          · simp (disch := omega) [badAt, less_cmp, *] <;> omega, by omega⟩
      | (have hb : badAt ls i = true := by simp (disch := omega) [badAt, less_cmp, *] <;> omega
         simp [valErr, *, any_t h hb])
  · simp (disch := omega) [h]
    refine G_loop (fun i e h => i ≤ ls.length ∧ (∀ j, j < i → outAt n ls j = false) ∧ h = [] ∧ get e 0 = .int .i64 n ∧ get e 52 = lst nl ls ∧ get e 53 = .int .i64 (ls.length : Int) ∧ get e 54 = .int .i64 (i : Int)) (fun i => ls.length - i) (a₀ := 0) ?_ ?_
    · simp
    rintro i' e' h' ⟨hi', hz', rfl, g0', g1', g7', g8'⟩
    have hb := any_f (f := badAt ls) (n := ls.length) fun j hj => hz j (by omega)
    simp (disch := omega) [g0', g1', g7', g8']
    refine G_brd (fun h' => ?_) (fun h' => ?_)
    · simp (disch := omega) [h']
      repeat' (first | with_reducible refine G_grdn (fun h_ => ?_) (fun h_ => ?_) | with_reducible refine G_grdd (fun h_ => ?_) (fun h_ => ?_) | with_reducible refine G_brd (fun h_ => ?_) (fun h_ => ?_) | with_reducible refine G_br (fun h_ => ?_) (fun h_ => ?_) | with_reducible refine G_grd (fun h_ => ?_) (fun h_ => ?_) | simp (disch := omega) [*, within_ok])
      all_goals first
        | exact ⟨i' + 1, by omega, by omega, fun j hj => by
            rcases Nat.lt_succ_iff_lt_or_eq.1 hj with h1 | rfl
            · exact hz' j h1
            · simp only [wi, decide_eq_true_eq, decide_eq_false_iff_not, Bool.not_eq_true', Bool.not_eq_false', Bool.not_eq_true, Bool.not_eq_false] at *
              simp [outAt, *] <;> omega, by omega⟩
        | (have hb : outAt n ls i' = true := by
             simp only [wi, decide_eq_true_eq, decide_eq_false_iff_not, Bool.not_eq_true', Bool.not_eq_false', Bool.not_eq_true, Bool.not_eq_false] at *
             simp [outAt, *] <;> omega
           simp [valErr, *, any_t h' hb])
    · have hb' := any_f (f := outAt n ls) (n := ls.length) fun j hj => hz' j (by omega)
      simp (disch := omega) [h', valErr, h1, h2, hb, hb']

theorem far_ok (nl : Nl) (ls : List Lk) : R tb 11 [lst nl ls, .list .nil 4 [], .list .nil 1 []] = some (.bool (decide (2000 < ls.length))) := by
  refine R_of_G (F := pf11) rfl rfl rfl ?_
  simp (disch := omega) [pf11, env0_eq]
  by_cases h : 2000 < ls.length
  · have h' : (2000 : Int) < ls.length := by omega
    simp (disch := omega) [h, h']
  · have h' : ¬ (2000 : Int) < ls.length := by omega
    simp (disch := omega) [h, h']
    rw [G_unroll]
    simp
    rw [G_unroll]
    simp [h]

end Go.Proofs.Ytbkhmgcfgfcilaa
