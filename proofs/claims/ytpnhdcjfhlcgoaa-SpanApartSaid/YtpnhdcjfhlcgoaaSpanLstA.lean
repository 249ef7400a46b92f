/- Several texts in one: SpanLst, SpanLst2. -/
import Derived.Test.YtpnhdcjfhlcgoaaSpanLaw
section
set_option linter.unusedVariables false
set_option linter.unusedSimpArgs false
set_option maxHeartbeats 4000000
set_option maxRecDepth 20000
namespace Go.Proofs.Ytpnhdcjfhlcgoaa
open Go.Proofs.Ytpnhdcjfhlcgoaa.PM

structure Sp where
  k : Int
  a : Int
  b : Int
  u : Int
def encSp (s : Sp) : List PV := [.int .i64 s.k, .int .i64 s.a, .int .i64 s.b, .int .i64 s.u]
theorem encSp_inj (x y : Sp) (h : encSp x = encSp y) : x = y := by
  simp only [encSp, List.cons.injEq, PV.int.injEq, true_and, and_true] at h
  cases x; cases y; simp_all
noncomputable instance : Enc Sp where
  sz := 4
  enc := encSp
  dec := decOf encSp
  cln _ := true
  pos := by decide
  len _ := rfl
  one _ := rfl
  pur _ := rfl
  hcln n := by simp [encSp]
  dec_enc := decOf_enc encSp_inj
  enc_dec _ _ := enc_decOf
@[simp] theorem sz_sp : Enc.sz Sp = 4 := rfl
@[simp] theorem enc_sp (n : Sp) : Enc.enc n = [.int .i64 n.k, .int .i64 n.a, .int .i64 n.b, .int .i64 n.u] := rfl
@[simp] theorem cln_sp (n : Sp) : Enc.cln n = true := rfl

/-- One span stands ahead of another one. -/
def ltS (s t : Sp) : Bool := if s.k ≠ t.k then decide (s.k < t.k) else if s.a ≠ t.a then decide (s.a < t.a) else if s.b ≠ t.b then decide (s.b < t.b) else decide (s.u < t.u)
theorem less_ok (s t : Sp) : R tb 61 [vSpan s.k s.a s.b s.u, vSpan t.k t.a t.b t.u] = some (.bool (ltS s t)) := by
  have h : ltS s t = if s.k ≠ t.k then decide (s.k < t.k) else if s.a ≠ t.a then decide (s.a < t.a) else if s.b ≠ t.b then decide (s.b < t.b) else decide (s.u < t.u) := rfl
  obtain ⟨k, a, b, u⟩ := s
  obtain ⟨k', a', b', u'⟩ := t
  dsimp only at h ⊢
  generalize ltS ⟨k, a, b, u⟩ ⟨k', a', b', u'⟩ = r at *
  subst h
  refine R_of_G (F := pf61) rfl rfl rfl ?_
  simp (disch := first | omega | with_unfolding_all rfl) [pf61, env0_eq]
  by_cases c1 : k = k'
  case neg => simp (disch := first | omega | with_unfolding_all rfl) [c1]
  simp (disch := first | omega | with_unfolding_all rfl) [c1]
  by_cases c2 : a = a'
  case neg => simp (disch := first | omega | with_unfolding_all rfl) [c2]
  simp (disch := first | omega | with_unfolding_all rfl) [c2]
  by_cases c3 : b = b'
  case neg => simp (disch := first | omega | with_unfolding_all rfl) [c3]
  simp (disch := first | omega | with_unfolding_all rfl) [c3]
def cm1 (a b : Int) : Int := if a < b then -1 else if b < a then 1 else 0
theorem nan_ok (a : Int) : R tb 94 [.int .i64 a] = some (.bool false) := by
  refine R_of_G (F := pf94) rfl rfl rfl ?_
  simp (disch := first | omega | with_unfolding_all rfl) [pf94, env0_eq]
theorem cmp_ok (a b : Int) : R tb 70 [.int .i64 a, .int .i64 b] = some (.int .i64 (cm1 a b)) := by
  refine R_of_G (F := pf70) rfl rfl rfl ?_
  simp (disch := first | omega | with_unfolding_all rfl) [pf70, env0_eq, nan_ok]
  by_cases c1 : a < b
  · simp (disch := first | omega | with_unfolding_all rfl) [c1, cm1]
  simp (disch := first | omega | with_unfolding_all rfl) [c1]
  by_cases c2 : b < a
  · simp (disch := first | omega | with_unfolding_all rfl) [c1, c2, cm1]
  · simp (disch := first | omega | with_unfolding_all rfl) [c1, c2, cm1]
def or4I (a b c d : Int) : Int := if a ≠ 0 then a else if b ≠ 0 then b else if c ≠ 0 then c else d
theorem or_ok {nl : Nl} {a b c d : Int} : R tb 69 [lst nl [a, b, c, d]] = some (.int .i64 (or4I a b c d)) := by
  have x0 : zz [a, b, c, d] 0 = a := rfl
  have x1 : zz [a, b, c, d] 1 = b := rfl
  have x2 : zz [a, b, c, d] 2 = c := rfl
  have x3 : zz [a, b, c, d] 3 = d := rfl
  have hl : [a, b, c, d].length = 4 := rfl
  unfold or4I
  generalize [a, b, c, d] = xs at *
  refine R_of_G (F := pf69) rfl rfl rfl ?_
  simp (disch := first | omega | with_unfolding_all rfl) [pf69, env0_eq, hl]
  rw [G_unroll]
  simp (disch := first | omega | with_unfolding_all rfl) [hl, zz_get, x0]
  by_cases c0 : a = 0
  case neg => simp (disch := first | omega | with_unfolding_all rfl) [c0]
  simp (disch := first | omega | with_unfolding_all rfl) [c0]
  rw [G_unroll]
  simp (disch := first | omega | with_unfolding_all rfl) [hl, zz_get, x1]
  by_cases c1 : b = 0
  case neg => simp (disch := first | omega | with_unfolding_all rfl) [c1]
  simp (disch := first | omega | with_unfolding_all rfl) [c1]
  rw [G_unroll]
  simp (disch := first | omega | with_unfolding_all rfl) [hl, zz_get, x2]
  by_cases c2 : c = 0
  case neg => simp (disch := first | omega | with_unfolding_all rfl) [c2]
  simp (disch := first | omega | with_unfolding_all rfl) [c2]
  rw [G_unroll]
  simp (disch := first | omega | with_unfolding_all rfl) [hl, zz_get, x3]
  by_cases c3 : d = 0
  case neg => simp (disch := first | omega | with_unfolding_all rfl) [c3]
  simp (disch := first | omega | with_unfolding_all rfl) [c3]
  rw [G_unroll]
  simp (disch := first | omega | with_unfolding_all rfl) [hl]
def cmS (s t : Sp) : Int := or4I (cm1 s.k t.k) (cm1 s.a t.a) (cm1 s.b t.b) (cm1 s.u t.u)
theorem cmS_lt (s t : Sp) : decide (0 ≤ cmS s t) = !ltS s t := by
  have h1 : ∀ a b : Int, cm1 a b = 0 ↔ a = b := by intro a b; unfold cm1; split; · omega
                                                   split <;> omega
  have h2 : ∀ a b : Int, a ≠ b → decide (0 ≤ cm1 a b) = !decide (a < b) := by
    intro a b hab
    unfold cm1
    by_cases c : a < b
    · simp [c]
    · have : b < a := by omega
      simp [c, this]
  unfold cmS or4I ltS
  simp only [ne_eq, h1]
  by_cases c1 : s.k = t.k
  · by_cases c2 : s.a = t.a
    · by_cases c3 : s.b = t.b
      · by_cases c4 : s.u = t.u
        · simp [c1, c2, c3, c4, (h1 t.u t.u).2 rfl]
        · simp [c1, c2, c3, h2 _ _ c4]
      · simp [c1, c2, c3, h2 _ _ c3]
    · simp [c1, c2, h2 _ _ c2]
  · simp [c1, h2 _ _ c1]
theorem compare_ok (s t : Sp) : R tb 53 [vSpan s.k s.a s.b s.u, vSpan t.k t.a t.b t.u] = some (.int .i64 (cmS s t)) := by
  obtain ⟨k, a, b, u⟩ := s
  obtain ⟨k', a', b', u'⟩ := t
  unfold cmS
  refine R_of_G (F := pf53) rfl rfl rfl ?_
  simp (disch := first | omega | with_unfolding_all rfl) [pf53, env0_eq, cmp_ok, or_ok]
end Go.Proofs.Ytpnhdcjfhlcgoaa
end

section
set_option linter.unusedVariables false
set_option linter.unusedSimpArgs false
set_option maxHeartbeats 4000000
set_option maxRecDepth 20000
namespace Go.Proofs.Ytpnhdcjfhlcgoaa
open Go.Proofs.Ytpnhdcjfhlcgoaa.PM

def spn (ss : List Sp) (i : Nat) : Sp := ss.getD i ⟨0, 0, 0, 0⟩
theorem spn_get {ss : List Sp} {i : Nat} (h : i < ss.length) : ss[i] = spn ss i := by simp [spn, h]
noncomputable abbrev vS (s : Sp) : PV := vSpan s.k s.a s.b s.u
def errS (l : Ld) (s : Sp) : Int := sErr l l.w.toNat l.h.toNat s.k s.a s.b s.u
def badS (l : Ld) (ss : List Sp) (i : Nat) : Bool := (decide (0 < i) && !ltS (spn ss (i - 1)) (spn ss i)) || !decide (errS l (spn ss i) = 0)
def lstErr (l : Ld) (ss : List Sp) : Int := if landErr l = 0 then (if anyN (badS l ss) 0 ss.length then 1 else 0) else landErr l
/-- All spans of a list that is right are right. -/
theorem lst_0 {l : Ld} {ss : List Sp} (h : lstErr l ss = 0) : landErr l = 0 ∧ ∀ i, i < ss.length → errS l (spn ss i) = 0 := by
  unfold lstErr at h
  split at h
  · rename_i h1
    refine ⟨h1, fun i hi => ?_⟩
    split at h
    · cases h
    rename_i h2
    have := anyN_off (by simpa using h2) (Nat.zero_le i) hi
    simp [badS] at this
    exact this.2
  · rename_i h1; exact absurd h h1

theorem list_ok {l : Ld} (hf : l.nl ≠ .bor) (hb : l.xs.length ≤ 3000) {snl : Nl} {ss : List Sp} (hss : ss.length ≤ 300) : R tb 38 [vL l, lst snl ss] = some (.int .i64 (lstErr l ss)) := by
  have h1 := landV_ok l hf hb
  have h2 := fun (h : landErr l = 0) (s : Sp) => check_ok hf (good_nat h) s.k s.a s.b s.u
  have h3 : lstErr l ss = if landErr l = 0 then (if anyN (badS l ss) 0 ss.length then 1 else 0) else landErr l := rfl
  have h2' : ∀ (h : landErr l = 0) (s : Sp), R tb 32 [vL l, vS s] = some (.int .i64 (errS l s)) := h2
  have h4 : ∀ i, badS l ss i = ((decide (0 < i) && !ltS (spn ss (i - 1)) (spn ss i)) || !decide (errS l (spn ss i) = 0)) := fun _ => rfl
  clear h2
  generalize lstErr l ss = re at *
  generalize landErr l = le at *
  generalize badS l ss = bd at *
  generalize errS l = es at *
  obtain ⟨w, hh, nl, xs⟩ := l
  dsimp only at hf h1 h2'
  refine R_of_G (F := pf38) rfl rfl rfl ?_
  by_cases c : le = 0
  case neg =>
    rw [if_neg c] at h3
    simp (disch := first | omega | with_unfolding_all rfl) [pf38, env0_eq, hf, h1, c, h3]
  rw [if_pos c] at h3
  have h2' := h2' c
  simp (disch := first | omega | with_unfolding_all rfl) [pf38, env0_eq, hf, h1, c]
  refine G_scan (fun i e h => h = [] ∧ get e 1 = lst snl ss ∧ get e 2 = .pptr (!(nl != .bor)) [.int .i64 w, .int .i64 hh, lst nl xs] 0 ∧ get e 13 = lst snl ss ∧ get e 14 = .int .i64 (ss.length : Int) ∧ get e 15 = .int .i64 (i : Int))
    bd ss.length 0 ?_ (Nat.zero_le _) ?_
  · simp
  · rintro i e h - hi hz ⟨rfl, g1, g2, g13, g14, g15⟩
    simp (disch := first | omega | with_unfolding_all rfl) [g1, g2, g13, g14, g15]
    refine G_brd (fun hlt => ?_) (fun hlt => ?_)
    · have hs := h2' (spn ss i)
      have hcm := compare_ok (spn ss (i - 1)) (spn ss i)
      have hlt' := cmS_lt (spn ss (i - 1)) (spn ss i)
      have bad : bd i = true → re = 1 := fun hb => by
        have : anyN bd 0 ss.length = true := anyN_t (Nat.zero_le i) hlt hb
        rw [h3, if_pos this]
      have h4 := h4 i
      simp (disch := first | omega | with_unfolding_all rfl) [hlt, spn_get]
      by_cases c1 : 0 < i
      · have t1 : ((i : Int) - 1).toNat = i - 1 := by omega
        have hcz : (0 ≤ cmS (spn ss (i - 1)) (spn ss i)) ↔ ltS (spn ss (i - 1)) (spn ss i) = false := by
          have := hlt'
          by_cases q : 0 ≤ cmS (spn ss (i - 1)) (spn ss i) <;> simp [q] at this ⊢ <;> simpa using this.symm
        simp (disch := first | omega | with_unfolding_all rfl) [c1, spn_get, t1, hcm]
        by_cases c2 : 0 ≤ cmS (spn ss (i - 1)) (spn ss i)
        · have hb : bd i = true := by rw [h4, hcz.1 c2]; simp [c1]
          simp (disch := first | omega | with_unfolding_all rfl) [c2, bad hb]
        · have hq : ltS (spn ss (i - 1)) (spn ss i) = true := by
            cases q : ltS (spn ss (i - 1)) (spn ss i)
            · exact absurd (hcz.2 q) c2
            · rfl
          simp (disch := first | omega | with_unfolding_all rfl) [c2, hs]
          by_cases c3 : es (spn ss i) = 0
          · simp (disch := first | omega | with_unfolding_all rfl) [c3, hlt, h4, hq]
          · have hb : bd i = true := by rw [h4]; simp [c3]
            simp (disch := first | omega | with_unfolding_all rfl) [c3, bad hb]
      · simp (disch := first | omega | with_unfolding_all rfl) [c1, hs]
        by_cases c3 : es (spn ss i) = 0
        · simp (disch := first | omega | with_unfolding_all rfl) [c3, hlt, h4, c1]
        · have hb : bd i = true := by rw [h4]; simp [c3]
          simp (disch := first | omega | with_unfolding_all rfl) [c3, bad hb]
    · have hno : anyN bd 0 ss.length = false := anyN_f fun j h1 h2 => hz j h1 (by omega)
      rw [hno] at h3
      simp (disch := first | omega | with_unfolding_all rfl) [hlt, h3]

theorem listR_ok {l : Ld} (hf : l.nl ≠ .bor) (hb : l.xs.length ≤ 3000) {snl : Nl} {ss : List Sp} (hss : ss.length ≤ 300) : R tb 35 [vL l, lst snl ss] = some (.int .i64 (lstErr l ss)) := by
  have h1 := landR_ok l hf hb
  have h2 := fun (h : landErr l = 0) (s : Sp) => errR_ok hf (good_nat h) s.k s.a s.b s.u
  have h3 : lstErr l ss = if landErr l = 0 then (if anyN (badS l ss) 0 ss.length then 1 else 0) else landErr l := rfl
  have h2' : ∀ (h : landErr l = 0) (s : Sp), R tb 30 [vL l, vS s] = some (.int .i64 (errS l s)) := h2
  have h4 : ∀ i, badS l ss i = ((decide (0 < i) && !ltS (spn ss (i - 1)) (spn ss i)) || !decide (errS l (spn ss i) = 0)) := fun _ => rfl
  clear h2
  generalize lstErr l ss = re at *
  generalize landErr l = le at *
  generalize badS l ss = bd at *
  generalize errS l = es at *
  obtain ⟨w, hh, nl, xs⟩ := l
  dsimp only at hf h1 h2'
  refine R_of_G (F := pf35) rfl rfl rfl ?_
  by_cases c : le = 0
  case neg =>
    rw [if_neg c] at h3
    simp (disch := first | omega | with_unfolding_all rfl) [pf35, env0_eq, hf, h1, c, h3]
  rw [if_pos c] at h3
  have h2' := h2' c
  simp (disch := first | omega | with_unfolding_all rfl) [pf35, env0_eq, hf, h1, c]
  refine G_scan (fun i e h => h = [] ∧ get e 1 = lst snl ss ∧ get e 2 = .pptr (!(nl != .bor)) [.int .i64 w, .int .i64 hh, lst nl xs] 0 ∧ get e 6 = .int .i64 (i : Int))
    bd ss.length 0 ?_ (Nat.zero_le _) ?_
  · simp
  · rintro i e h - hi hz ⟨rfl, g1, g2, g6⟩
    simp (disch := first | omega | with_unfolding_all rfl) [g1, g2, g6]
    refine G_brd (fun hlt => ?_) (fun hlt => ?_)
    · have hs := h2' (spn ss i)
      have hcm := less_ok (spn ss (i - 1)) (spn ss i)
      have bad : bd i = true → re = 1 := fun hb => by
        have : anyN bd 0 ss.length = true := anyN_t (Nat.zero_le i) hlt hb
        rw [h3, if_pos this]
      have h4 := h4 i
      simp (disch := first | omega | with_unfolding_all rfl) [hlt, spn_get]
      by_cases c1 : 0 < i
      · have t1 : ((i : Int) - 1).toNat = i - 1 := by omega
        simp (disch := first | omega | with_unfolding_all rfl) [c1, spn_get, t1, hcm]
        cases hq : ltS (spn ss (i - 1)) (spn ss i)
        · have hb : bd i = true := by rw [h4, hq]; simp [c1]
          simp (disch := first | omega | with_unfolding_all rfl) [bad hb]
        · simp (disch := first | omega | with_unfolding_all rfl) [hs, spn_get]
          by_cases c3 : es (spn ss i) = 0
          · simp (disch := first | omega | with_unfolding_all rfl) [c3, hlt, h4, hq]
          · have hb : bd i = true := by rw [h4]; simp [c3]
            simp (disch := first | omega | with_unfolding_all rfl) [c3, bad hb]
      · simp (disch := first | omega | with_unfolding_all rfl) [c1, hs, spn_get]
        by_cases c3 : es (spn ss i) = 0
        · simp (disch := first | omega | with_unfolding_all rfl) [c3, hlt, h4, c1]
        · have hb : bd i = true := by rw [h4]; simp [c3]
          simp (disch := first | omega | with_unfolding_all rfl) [c3, bad hb]
    · have hno : anyN bd 0 ss.length = false := anyN_f fun j h1 h2 => hz j h1 (by omega)
      rw [hno] at h3
      simp (disch := first | omega | with_unfolding_all rfl) [hlt, h3]
end Go.Proofs.Ytpnhdcjfhlcgoaa
end
