/- Airports: types, the first error of an airport. -/
import Derived.Test.YtmbknidfkddpfaaAirCode
set_option linter.unusedVariables false
set_option linter.unusedSimpArgs false
set_option maxHeartbeats 1000000
namespace Go.Proofs.Ytmbknidfkddpfaa
open Go.Proofs.Ytmbknidfkddpfaa.PM

theorem known_ok : R tb 14 [] = some (.bool true) := R_of (n := 400) (by kernel_rfl)

structure Nd where
  kind : Int
  nl : Nl
  on : List Int
def encNd (n : Nd) : List PV := [.int .i64 n.kind, lst n.nl n.on]
theorem encNd_inj (x y : Nd) (h : encNd x = encNd y) : x = y := by
  simp only [encNd, List.cons.injEq, PV.int.injEq, true_and, and_true] at h
  obtain ⟨h1, h2⟩ := h
  obtain ⟨h2, h3⟩ := lst_inj h2
  cases x; cases y; simp_all
noncomputable instance : Enc Nd where
  sz := 2
  enc := encNd
  dec := decOf encNd
  cln n := n.nl != .bor
  pos := by decide
  len _ := rfl
  one _ := rfl
  pur _ := rfl
  hcln n := by simp [encNd]
  dec_enc := decOf_enc encNd_inj
  enc_dec _ _ := enc_decOf
@[simp] theorem sz_nd : Enc.sz Nd = 2 := rfl
@[simp] theorem enc_nd (n : Nd) : Enc.enc n = [.int .i64 n.kind, lst n.nl n.on] := rfl
@[simp] theorem cln_nd (n : Nd) : Enc.cln n = (n.nl != .bor) := rfl

structure Fd where
  nl : Nl
  nodes : List Nd
  inn : Int
noncomputable abbrev vFd (f : Fd) : PV := .agg [lst f.nl f.nodes, .int .i64 f.inn]

def wi (n a b : Int) : Bool := decide (a ≤ n ∧ n ≤ b)
theorem within_ok (n a b : Int) : R tb 35 [.int .i64 n, .int .i64 a, .int .i64 b] = some (.bool (wi n a b)) := by
  unfold wi
  refine R_of_G (F := pf35) rfl rfl rfl ?_
  simp (disch := omega) [pf35, env0_eq]
  refine G_grdd (fun h => ?_) (fun h => ?_)
  · simp (disch := omega) [h]
  · simp (disch := omega) [h]

def badOn (xs : List Int) (i : Nat) : Bool := match xs[i - 1]?, xs[i]? with | some a, some b => decide (b ≤ a) | _, _ => false
def badNd (ns : List Nd) (i : Nat) : Bool := match ns[i]? with
  | some n => decide (n.kind < 0) || (decide (3 < n.kind) || anyN (badOn n.on) 1 n.on.length)
  | none => false
def outOn (m : Nat) (xs : List Int) (i : Nat) : Bool := match xs[i]? with | some a => decide (a < 0) || decide ((m : Int) ≤ a) | none => false
def outNd (ns : List Nd) (i : Nat) : Bool := match ns[i]? with
  | some n => anyN (outOn ns.length n.on) 0 n.on.length
  | none => false
def badIn (ns : List Nd) (i : Int) : Bool := decide (i < 0) || (decide ((ns.length : Int) ≤ i) || (match ns[i.toNat]? with | some n => !decide (n.kind = 0) | none => true))
def fieldErr (f : Fd) : Int := if 40 < f.nodes.length then 4 else if anyN (badNd f.nodes) 0 f.nodes.length then 1 else if anyN (outNd f.nodes) 0 f.nodes.length then 2 else if badIn f.nodes f.inn then 2 else 0

def longNd (ns : List Nd) (i : Nat) : Bool := match ns[i]? with | some n => decide (400 < n.on.length) | none => false
def large (f : Fd) : Bool := anyN (longNd f.nodes) 0 f.nodes.length || decide (400 < f.nodes.length)
theorem large_ok (f : Fd) (hf : f.nl ≠ .bor) (hb : f.nodes.length ≤ maxLen) : R tb 13 [vFd f] = some (.bool (large f)) := by
  refine R_of_G (F := pf13) rfl rfl rfl ?_
  have hm : maxLen = 9223372036854775807 := rfl
  simp (disch := omega) [pf13, env0_eq]
  refine G_scan (fun i e h => h = [] ∧ get e 1 = .pptr (!(f.nl != .bor)) [lst f.nl f.nodes, .int .i64 f.inn] 0 ∧ get e 6 = lst f.nl f.nodes ∧ get e 7 = .int .i64 (f.nodes.length : Int) ∧ get e 8 = .int .i64 (i : Int))
    (longNd f.nodes) f.nodes.length 0 ?_ (Nat.zero_le _) ?_
  · simp
  rintro i e h - hi hz ⟨rfl, g1, g6, g7, g8⟩
  simp (disch := omega) [g1, g6, g7, g8]
  refine G_brd (fun h => ?_) (fun h => ?_)
  · simp (disch := omega) [h]
    refine G_brd (fun h' => ?_) (fun h' => ?_)
    · have hn : anyN (longNd f.nodes) 0 f.nodes.length = true := anyN_t (Nat.zero_le i) h (by simp [longNd, h]; omega)
      simp (disch := omega) [h', large, hn]
    · simp (disch := omega) [h', longNd]
      omega
  · have hn : anyN (longNd f.nodes) 0 f.nodes.length = false := anyN_f fun j _ hj => hz j (Nat.zero_le _) (by omega)
    simp (disch := omega) [h, large, hn]
    by_cases hh : 400 < f.nodes.length
    · simp [hh]; omega
    · simp [hh]; omega

theorem validate_ok (f : Fd) (hf : f.nl ≠ .bor) (hb : f.nodes.length ≤ maxLen) (hc : ∀ n ∈ f.nodes, n.on.length ≤ 400) : R tb 15 [vFd f] = some (.int .i64 (fieldErr f)) := by
  refine R_of_G (F := pf15) rfl rfl rfl ?_
  have hm : maxLen = 9223372036854775807 := rfl
  simp (disch := omega) [pf15, env0_eq]
  by_cases h40 : 40 < f.nodes.length
  · have h40' : (40 : Int) < f.nodes.length := by omega
    simp [h40', h40, fieldErr]
  have h40' : ¬ (40 : Int) < f.nodes.length := by omega
  simp [h40']
  refine G_scan (fun i e h => h = [] ∧ get e 1 = .pptr (!(f.nl != .bor)) [lst f.nl f.nodes, .int .i64 f.inn] 0 ∧ get e 15 = lst f.nl f.nodes ∧ get e 16 = .int .i64 (f.nodes.length : Int) ∧ get e 17 = .int .i64 (i : Int))
    (badNd f.nodes) f.nodes.length 0 ?_ (Nat.zero_le _) ?_
  · simp
  rintro i e h - hi hz ⟨rfl, g1, g15, g16, g17⟩
  simp (disch := omega) [g1, g15, g16, g17]
  refine G_brd (fun h => ?_) (fun h => ?_)
  · simp (disch := omega) [h]
    refine G_grdn (fun h1 => ?_) (fun h1 => ?_)
    · simp (disch := omega) [h1]
      refine G_brd (fun h2 => ?_) (fun h2 => ?_)
      · have hn : anyN (badNd f.nodes) 0 f.nodes.length = true := anyN_t (Nat.zero_le i) h (by simp [badNd, h, h1, h2])
        simp (disch := omega) [h2, fieldErr, h40, hn]
      simp (disch := omega) [h2]
      have hon := hc _ (List.getElem_mem h)
      refine G_scan (fun k e' h' => h' = [⟨58, 0, [.int .i64 f.nodes[i].kind, lst f.nodes[i].nl f.nodes[i].on], none⟩] ∧ get e' 1 = .pptr (!(f.nl != .bor)) [lst f.nl f.nodes, .int .i64 f.inn] 0 ∧ get e' 15 = lst f.nl f.nodes ∧ get e' 16 = .int .i64 (f.nodes.length : Int) ∧ get e' 17 = .int .i64 (i : Int) ∧
        get e' 4 = .mptr 0 0 0 ∧ get e' 5 = .int .i64 (k : Int)) (badOn f.nodes[i].on) (max 1 f.nodes[i].on.length) 1 ?_ (by omega) ?_
      · simp [g1]
      rintro k e' h' hk1 hk hzk ⟨rfl, g1', g15', g16', g17', g4', g5'⟩
      simp (disch := omega) [g1', g15', g16', g17', g4', g5']
      refine G_brd (fun h3 => ?_) (fun h3 => ?_)
      · simp (disch := omega) [h3]
        refine G_brd (fun h4 => ?_) (fun h4 => ?_)
        · have hb1 : anyN (badOn f.nodes[i].on) 1 f.nodes[i].on.length = true := anyN_t hk1 h3 (by simp (disch := omega) [badOn, h4])
          have hn : anyN (badNd f.nodes) 0 f.nodes.length = true := anyN_t (Nat.zero_le i) h (by simp [badNd, h, hb1])
          simp (disch := omega) [h4, fieldErr, h40, hn]
        · simp (disch := omega) [h4, badOn]
      · have hb1 : anyN (badOn f.nodes[i].on) 1 f.nodes[i].on.length = false := anyN_f fun j hj1 hj => hzk j hj1 (by omega)
        simp (disch := omega) [h3, badNd, hb1, h1, h2]
    · have hn : anyN (badNd f.nodes) 0 f.nodes.length = true := anyN_t (Nat.zero_le i) h (by simp [badNd, h, h1])
      simp (disch := omega) [h1, fieldErr, h40, hn]
  · have hn : anyN (badNd f.nodes) 0 f.nodes.length = false := anyN_f fun j _ hj => hz j (Nat.zero_le _) (by omega)
    simp (disch := omega) [h]
    refine G_scan (fun i e h => h = [] ∧ get e 1 = .pptr (!(f.nl != .bor)) [lst f.nl f.nodes, .int .i64 f.inn] 0 ∧ get e 50 = lst f.nl f.nodes ∧ get e 51 = .int .i64 (f.nodes.length : Int) ∧ get e 52 = .int .i64 (i : Int))
      (outNd f.nodes) f.nodes.length 0 ?_ (Nat.zero_le _) ?_
    · simp
    rintro i e h - hi hz ⟨rfl, g1, g15, g16, g17⟩
    simp (disch := omega) [g1, g15, g16, g17]
    refine G_brd (fun h => ?_) (fun h => ?_)
    · simp (disch := omega) [h]
      have hon := hc _ (List.getElem_mem h)
      refine G_scan (fun k e' h' => h' = [⟨58, 0, [.int .i64 f.nodes[i].kind, lst f.nodes[i].nl f.nodes[i].on], none⟩] ∧ get e' 1 = .pptr (!(f.nl != .bor)) [lst f.nl f.nodes, .int .i64 f.inn] 0 ∧ get e' 50 = lst f.nl f.nodes ∧ get e' 51 = .int .i64 (f.nodes.length : Int) ∧ get e' 52 = .int .i64 (i : Int) ∧
        get e' 57 = lst f.nodes[i].nl f.nodes[i].on ∧ get e' 58 = .int .i64 (f.nodes[i].on.length : Int) ∧ get e' 59 = .int .i64 (k : Int)) (outOn f.nodes.length f.nodes[i].on) f.nodes[i].on.length 0 ?_ (by omega) ?_
      · simp
      rintro k e' h' hk1 hk hzk ⟨rfl, g1', g15', g16', g17', g4', g5', g6'⟩
      simp (disch := omega) [g1', g15', g16', g17', g4', g5', g6']
      refine G_brd (fun h3 => ?_) (fun h3 => ?_)
      · simp (disch := omega) [h3]
        refine G_grdn (fun h4 => ?_) (fun h4 => ?_)
        · simp (disch := omega) [h4]
          refine G_brd (fun h5 => ?_) (fun h5 => ?_)
          · have hb1 : anyN (outOn f.nodes.length f.nodes[i].on) 0 f.nodes[i].on.length = true := anyN_t hk1 h3 (by simp (disch := omega) [outOn, h3, h4, h5])
            have hn2 : anyN (outNd f.nodes) 0 f.nodes.length = true := anyN_t (Nat.zero_le i) h (by simp [outNd, h, hb1])
            simp (disch := omega) [h5, fieldErr, h40, hn, hn2]
          · simp (disch := omega) [h5, h4, h3, outOn]
        · have hb1 : anyN (outOn f.nodes.length f.nodes[i].on) 0 f.nodes[i].on.length = true := anyN_t hk1 h3 (by simp (disch := omega) [outOn, h3, h4])
          have hn2 : anyN (outNd f.nodes) 0 f.nodes.length = true := anyN_t (Nat.zero_le i) h (by simp [outNd, h, hb1])
          simp (disch := omega) [h4, fieldErr, h40, hn, hn2]
      · have hb1 : anyN (outOn f.nodes.length f.nodes[i].on) 0 f.nodes[i].on.length = false := anyN_f fun j hj1 hj => hzk j hj1 (by omega)
        simp (disch := omega) [h3, outNd, hb1, h]
    · have hn2 : anyN (outNd f.nodes) 0 f.nodes.length = false := anyN_f fun j _ hj => hz j (Nat.zero_le _) (by omega)
      simp (disch := omega) [h]
      refine G_grdn (fun h1 => ?_) (fun h1 => ?_)
      · simp (disch := omega) [h1]
        refine G_grdn (fun h2 => ?_) (fun h2 => ?_)
        · simp (disch := omega) [h1, h2]
          have hlt : f.inn.toNat < f.nodes.length := by omega
          by_cases hk : f.nodes[f.inn.toNat].kind = 0
          · simp (disch := omega) [hk, fieldErr, hn, hn2, h40, badIn, h1, h2, hlt]
          · simp (disch := omega) [hk, fieldErr, hn, hn2, h40, badIn, h1, h2, hlt]
        · simp (disch := omega) [h2, fieldErr, hn, hn2, h40, badIn]
      · simp (disch := omega) [h1, fieldErr, hn, hn2, h40, badIn]

theorem wi_t {n a b : Int} (h : wi n a b = true) : a ≤ n ∧ n ≤ b := by simpa [wi] using h
theorem wi_f {n a b : Int} (h : wi n a b = false) : n < a ∨ b < n := by simp [wi] at h; omega
theorem refValidate_ok (f : Fd) (hf : f.nl ≠ .bor) (hb : f.nodes.length ≤ maxLen) (hc : ∀ n ∈ f.nodes, n.on.length ≤ 400) : R tb 16 [vFd f] = some (.int .i64 (fieldErr f)) := by
  refine R_of_G (F := pf16) rfl rfl rfl ?_
  have hm : maxLen = 9223372036854775807 := rfl
  simp (disch := omega) [pf16, env0_eq]
  by_cases h40 : 40 < f.nodes.length
  · have h40' : (40 : Int) < f.nodes.length := by omega
    simp [h40', h40, fieldErr]
  have h40' : ¬ (40 : Int) < f.nodes.length := by omega
  simp [h40']
  refine G_scan (fun i e h => h = [] ∧ get e 1 = .pptr (!(f.nl != .bor)) [lst f.nl f.nodes, .int .i64 f.inn] 0 ∧ get e 15 = lst f.nl f.nodes ∧ get e 16 = .int .i64 (f.nodes.length : Int) ∧ get e 17 = .int .i64 (i : Int))
    (badNd f.nodes) f.nodes.length 0 ?_ (Nat.zero_le _) ?_
  · simp
  rintro i e h - hi hz ⟨rfl, g1, g15, g16, g17⟩
  simp (disch := omega) [g1, g15, g16, g17]
  refine G_brd (fun h => ?_) (fun h => ?_)
  · simp (disch := omega) [h, within_ok]
    refine G_br (fun h1 => ?_) (fun h1 => ?_)
    · have h1' := wi_t h1
      simp (disch := omega) [h1]
      have hon := hc _ (List.getElem_mem h)
      refine G_scan (fun k e' h' => h' = [⟨58, 0, [.int .i64 f.nodes[i].kind, lst f.nodes[i].nl f.nodes[i].on], none⟩] ∧ get e' 1 = .pptr (!(f.nl != .bor)) [lst f.nl f.nodes, .int .i64 f.inn] 0 ∧ get e' 15 = lst f.nl f.nodes ∧ get e' 16 = .int .i64 (f.nodes.length : Int) ∧ get e' 17 = .int .i64 (i : Int) ∧
        get e' 4 = .mptr 0 0 0 ∧ get e' 5 = .int .i64 (k : Int)) (badOn f.nodes[i].on) (max 1 f.nodes[i].on.length) 1 ?_ (by omega) ?_
      · simp [g1]
      rintro k e' h' hk1 hk hzk ⟨rfl, g1', g15', g16', g17', g4', g5'⟩
      simp (disch := omega) [g1', g15', g16', g17', g4', g5']
      refine G_brd (fun h3 => ?_) (fun h3 => ?_)
      · simp (disch := omega) [h3]
        refine G_brd (fun h4 => ?_) (fun h4 => ?_)
        · have hb1 : anyN (badOn f.nodes[i].on) 1 f.nodes[i].on.length = true := anyN_t hk1 h3 (by simp (disch := omega) [badOn, h4])
          have hn : anyN (badNd f.nodes) 0 f.nodes.length = true := anyN_t (Nat.zero_le i) h (by simp [badNd, h, hb1])
          simp (disch := omega) [h4, fieldErr, h40, hn]
        · simp (disch := omega) [h4, badOn]
      · have hb1 : anyN (badOn f.nodes[i].on) 1 f.nodes[i].on.length = false := anyN_f fun j hj1 hj => hzk j hj1 (by omega)
        simp (disch := omega) [h3, badNd, hb1]
        omega
    · have h1' := wi_f h1
      have hn : anyN (badNd f.nodes) 0 f.nodes.length = true := anyN_t (Nat.zero_le i) h (by simp [badNd, h]; omega)
      simp (disch := omega) [h1, fieldErr, h40, hn]
  · have hn : anyN (badNd f.nodes) 0 f.nodes.length = false := anyN_f fun j _ hj => hz j (Nat.zero_le _) (by omega)
    simp (disch := omega) [h]
    refine G_scan (fun i e h => h = [] ∧ get e 1 = .pptr (!(f.nl != .bor)) [lst f.nl f.nodes, .int .i64 f.inn] 0 ∧ get e 46 = lst f.nl f.nodes ∧ get e 47 = .int .i64 (f.nodes.length : Int) ∧ get e 48 = .int .i64 (i : Int))
      (outNd f.nodes) f.nodes.length 0 ?_ (Nat.zero_le _) ?_
    · simp
    rintro i e h - hi hz ⟨rfl, g1, g15, g16, g17⟩
    simp (disch := omega) [g1, g15, g16, g17]
    refine G_brd (fun h => ?_) (fun h => ?_)
    · simp (disch := omega) [h]
      have hon := hc _ (List.getElem_mem h)
      refine G_scan (fun k e' h' => h' = [⟨58, 0, [.int .i64 f.nodes[i].kind, lst f.nodes[i].nl f.nodes[i].on], none⟩] ∧ get e' 1 = .pptr (!(f.nl != .bor)) [lst f.nl f.nodes, .int .i64 f.inn] 0 ∧ get e' 46 = lst f.nl f.nodes ∧ get e' 47 = .int .i64 (f.nodes.length : Int) ∧ get e' 48 = .int .i64 (i : Int) ∧
        get e' 53 = lst f.nodes[i].nl f.nodes[i].on ∧ get e' 54 = .int .i64 (f.nodes[i].on.length : Int) ∧ get e' 55 = .int .i64 (k : Int)) (outOn f.nodes.length f.nodes[i].on) f.nodes[i].on.length 0 ?_ (by omega) ?_
      · simp
      rintro k e' h' hk1 hk hzk ⟨rfl, g1', g15', g16', g17', g4', g5', g6'⟩
      simp (disch := omega) [g1', g15', g16', g17', g4', g5', g6']
      refine G_brd (fun h3 => ?_) (fun h3 => ?_)
      · simp (disch := omega) [h3, within_ok]
        refine G_br (fun h4 => ?_) (fun h4 => ?_)
        · have h4' := wi_t h4
          simp (disch := omega) [h4, h3, outOn]
          omega
        · have h4' := wi_f h4
          have hb1 : anyN (outOn f.nodes.length f.nodes[i].on) 0 f.nodes[i].on.length = true := anyN_t hk1 h3 (by simp (disch := omega) [outOn, h3]; omega)
          have hn2 : anyN (outNd f.nodes) 0 f.nodes.length = true := anyN_t (Nat.zero_le i) h (by simp [outNd, h, hb1])
          simp (disch := omega) [h4, fieldErr, h40, hn, hn2]
      · have hb1 : anyN (outOn f.nodes.length f.nodes[i].on) 0 f.nodes[i].on.length = false := anyN_f fun j hj1 hj => hzk j hj1 (by omega)
        simp (disch := omega) [h3, outNd, hb1, h]
    · have hn2 : anyN (outNd f.nodes) 0 f.nodes.length = false := anyN_f fun j _ hj => hz j (Nat.zero_le _) (by omega)
      simp (disch := omega) [h, within_ok]
      refine G_grd (fun h1 => ?_) (fun h1 => ?_)
      · have h1' := wi_t h1
        simp (disch := omega) [h1]
        have hlt : f.inn.toNat < f.nodes.length := by omega
        by_cases hk : f.nodes[f.inn.toNat].kind = 0
        · have hbi : badIn f.nodes f.inn = false := by simp (disch := omega) [badIn, hk, hlt]; omega
          simp (disch := omega) [hk, fieldErr, hn, hn2, h40, hbi]
        · have hbi : badIn f.nodes f.inn = true := by simp (disch := omega) [badIn, hk, hlt]
          simp (disch := omega) [hk, fieldErr, hn, hn2, h40, hbi]
      · have h1' := wi_f h1
        have hbi : badIn f.nodes f.inn = true := by simp (disch := omega) [badIn]; omega
        simp (disch := omega) [h1, fieldErr, hn, hn2, h40, hbi]

theorem law_ok (f : Fd) (hf : f.nl ≠ .bor) (hb : f.nodes.length ≤ maxLen) : R tb 3 [vFd f] = some (.bool true) := by
  refine R_of_G (F := pf3) rfl rfl rfl ?_
  simp (disch := omega) [pf3, env0_eq]
  cases hl : large f
  · have hc : ∀ n ∈ f.nodes, n.on.length ≤ 400 := by
      intro n hn
      obtain ⟨i, hi, rfl⟩ := List.getElem_of_mem hn
      simp only [large, Bool.or_eq_false_iff] at hl
      apply Classical.byContradiction
      intro hno
      have := anyN_t (f := longNd f.nodes) (Nat.zero_le i) hi (by simp [longNd, hi]; omega)
      rw [this] at hl
      cases hl.1
    have h1 := large_ok f hf hb
    have h2 := validate_ok f hf hb hc
    have h3 := refValidate_ok f hf hb hc
    simp only [vFd] at h1 h2 h3
    simp (disch := omega) [h1, h2, h3, hl, known_ok]
  · have h1 := large_ok f hf hb
    simp only [vFd] at h1
    simp (disch := omega) [h1, hl, known_ok]
end Go.Proofs.Ytmbknidfkddpfaa
