/- Several texts in one: TrainTr, TrainLie, TrainOrd. -/
import Derived.Test.YtiaeckidlmoohaaGreatTrainBlkA
section
set_option linter.unusedVariables false
set_option linter.unusedSimpArgs false
set_option maxHeartbeats 4000000
set_option maxRecDepth 20000
namespace Go.Proofs.YtiaeckidlmoohaaGreat
open Go.Proofs.YtiaeckidlmoohaaGreat.PM
structure Jo where
  a : So
  b : So
instance : Enc Jo where
  sz := 6
  enc l := [.int .i64 l.a.t, .int .i64 l.a.p, .int .i64 l.a.o, .int .i64 l.b.t, .int .i64 l.b.p, .int .i64 l.b.o]
  dec | [.int .i64 a, .int .i64 b, .int .i64 c, .int .i64 d, .int .i64 e, .int .i64 f] => some ⟨⟨a, b, c⟩, ⟨d, e, f⟩⟩ | _ => none
  cln _ := true
  pos := by decide
  len _ := rfl
  one _ := rfl
  pur _ := rfl
  hcln _ := rfl
  dec_enc _ := rfl
  enc_dec l x h := by
    split at h
    · simp only [Option.some.injEq] at h; subst h; rfl
    · cases h
instance : Flat Jo := ⟨fun _ _ _ _ => rfl⟩
@[simp] theorem sz_jo : Enc.sz Jo = 6 := rfl
@[simp] theorem enc_jo (l : Jo) : Enc.enc l = [.int .i64 l.a.t, .int .i64 l.a.p, .int .i64 l.a.o, .int .i64 l.b.t, .int .i64 l.b.p, .int .i64 l.b.o] := rfl
@[simp] theorem cln_jo (l : Jo) : Enc.cln l = true := rfl
theorem within_ok (n a b : Int) : R tc 65 [.int .i64 n, .int .i64 a, .int .i64 b] = some (.bool (decide (a ≤ n ∧ n ≤ b))) := by
  refine R_of_G (F := pf65) (tc_nat _ rfl) rfl rfl ?_
  by_cases c : a ≤ n
  · by_cases d : n ≤ b
    · simp (disch := first | omega | with_unfolding_all rfl) [pf65, env0_eq, c, d]
    · simp (disch := first | omega | with_unfolding_all rfl) [pf65, env0_eq, c, d]
  · simp (disch := first | omega | with_unfolding_all rfl) [pf65, env0_eq, c]
def unS : List PV → Option (List So)
  | [] => some []
  | .int .i64 a :: .int .i64 b :: .int .i64 c :: xs => (unS xs).map (⟨a, b, c⟩ :: ·)
  | _ => none
theorem unS_cl : ∀ (xs : List So), unS (cl xs) = some xs
  | [] => rfl
  | x :: xs => by
    have := unS_cl xs
    rw [cl_cons]
    show (unS (cl xs)).map (⟨x.t, x.p, x.o⟩ :: ·) = _
    rw [this]; rfl
theorem cl_unS : ∀ (n : Nat) (l : List PV) (xs : List So), l.length ≤ n → unS l = some xs → cl xs = l
  | n, [], xs, _, h => by simp [unS] at h; subst h; rfl
  | 0, v :: l, xs, hn, h => by simp at hn
  | n + 1, v :: l, xs, hn, h => by
    unfold unS at h
    split at h
    · rename_i h0; simp only [Option.some.injEq] at h; subst h; cases h0
    · rename_i a b c l' h0
      rw [Option.map_eq_some_iff] at h
      obtain ⟨ys, h1, rfl⟩ := h
      cases h0
      rw [cl_cons, cl_unS n l' ys (by simp at hn; omega) h1]; rfl
    · cases h
structure Tr where
  n : Int
  v : Int
  d : Int
  n1 : Nl
  s : List So
  n2 : Nl
  a : List So
instance : Enc Tr where
  sz := 5
  enc l := [.int .i64 l.n, .int .i64 l.v, .int .i64 l.d, lst l.n1 l.s, lst l.n2 l.a]
  dec | [.int .i64 n, .int .i64 v, .int .i64 d, .list n1 3 xs, .list n2 3 ys] => (unS xs).bind fun s => (unS ys).map fun a => ⟨n, v, d, n1, s, n2, a⟩ | _ => none
  cln l := l.n1 != .bor && l.n2 != .bor
  pos := by decide
  len _ := rfl
  one _ := rfl
  pur _ := rfl
  hcln l := by
    show (true && (true && (true && ((l.n1 != .bor) && ((l.n2 != .bor) && true))))) = _
    simp
  dec_enc x := by
    show ((unS (cl x.s)).bind fun s => (unS (cl x.a)).map fun a => Tr.mk x.n x.v x.d x.n1 s x.n2 a) = some x
    rw [unS_cl, unS_cl]; rfl
  enc_dec l x h := by
    split at h
    · simp only [Option.bind_eq_some_iff, Option.map_eq_some_iff] at h
      obtain ⟨s, h1, a, h2, rfl⟩ := h
      show [_, _, _, PV.list _ 3 (cl s), PV.list _ 3 (cl a)] = _
      rw [cl_unS _ _ _ (Nat.le_refl _) h1, cl_unS _ _ _ (Nat.le_refl _) h2]
    · cases h
@[simp] theorem sz_tr : Enc.sz Tr = 5 := rfl
@[simp] theorem enc_tr (l : Tr) : Enc.enc l = [.int .i64 l.n, .int .i64 l.v, .int .i64 l.d, lst l.n1 l.s, lst l.n2 l.a] := rfl
@[simp] theorem cln_tr (l : Tr) : Enc.cln l = (l.n1 != .bor && l.n2 != .bor) := rfl
abbrev vTr (l : Tr) : PV := .agg [.int .i64 l.n, .int .i64 l.v, .int .i64 l.d, lst l.n1 l.s, lst l.n2 l.a]
structure Yd where
  r : Rl
  n1 : Nl
  g : List Sg
  n2 : Nl
  j : List Jo
  n3 : Nl
  t : List Tr
abbrev vYd (y : Yd) : PV := .agg [.int .i64 y.r.w, .int .i64 y.r.h, lst y.r.n1 y.r.s, lst y.r.n2 y.r.d, lst y.n1 y.g, lst y.n2 y.j, lst y.n3 y.t]
def fldT (l : Tr) : Bool := decide (1 ≤ l.n ∧ l.n ≤ 20 ∧ 0 ≤ l.v ∧ l.v ≤ 192 ∧ 0 ≤ l.d ∧ l.d < 192 ∧ (l.s.length : Int) ≤ l.n ∧ (l.a.length : Int) ≤ 60 ∧ (0 < (l.s.length : Int) ∨ (l.a.length : Int) = 0))
theorem fields_ok (l : Tr) : R tc 57 [vTr l] = some (.bool (fldT l)) := by
  refine R_of_G (F := pf57) (tc_nat _ rfl) rfl rfl ?_
  unfold fldT
  by_cases c1 : 1 ≤ l.n
  case neg => simp (disch := first | omega | with_unfolding_all rfl) [pf57, env0_eq, c1]
  by_cases c2 : l.n ≤ 20
  case neg => simp (disch := first | omega | with_unfolding_all rfl) [pf57, env0_eq, c1, c2]
  by_cases c3 : 0 ≤ l.v
  case neg => simp (disch := first | omega | with_unfolding_all rfl) [pf57, env0_eq, c1, c2, c3]
  by_cases c4 : l.v ≤ 192
  case neg => simp (disch := first | omega | with_unfolding_all rfl) [pf57, env0_eq, c1, c2, c3, c4]
  by_cases c5 : 0 ≤ l.d
  case neg => simp (disch := first | omega | with_unfolding_all rfl) [pf57, env0_eq, c1, c2, c3, c4, c5]
  by_cases c6 : l.d < 192
  case neg => simp (disch := first | omega | with_unfolding_all rfl) [pf57, env0_eq, c1, c2, c3, c4, c5, c6]
  by_cases c7 : (l.s.length : Int) ≤ l.n
  case neg => simp (disch := first | omega | with_unfolding_all rfl) [pf57, env0_eq, c1, c2, c3, c4, c5, c6, c7]
  by_cases c8 : (l.a.length : Int) ≤ 60
  case neg => simp (disch := first | omega | with_unfolding_all rfl) [pf57, env0_eq, c1, c2, c3, c4, c5, c6, c7, c8]
  by_cases c9 : 0 < l.s.length
  · simp (disch := first | omega | with_unfolding_all rfl) [pf57, env0_eq, c1, c2, c3, c4, c5, c6, c7, c8, c9]
  · have c9' : l.s.length = 0 := by omega
    have c0 : 0 ≤ l.n := by omega
    by_cases c10 : l.a.length = 0
    · simp (disch := first | omega | with_unfolding_all rfl) [pf57, env0_eq, c0, c1, c2, c3, c4, c5, c6, c7, c8, c9, c9', c10]
    · simp (disch := first | omega | with_unfolding_all rfl) [pf57, env0_eq, c0, c1, c2, c3, c4, c5, c6, c7, c8, c9, c9', c10]
end Go.Proofs.YtiaeckidlmoohaaGreat
end
section
set_option linter.unusedVariables false
set_option linter.unusedSimpArgs false
set_option maxHeartbeats 4000000
set_option maxRecDepth 20000
namespace Go.Proofs.YtiaeckidlmoohaaGreat
open Go.Proofs.YtiaeckidlmoohaaGreat.PM
theorem endsT_ok {p : Int} (h : 0 ≤ p ∧ p < 6) : R tc 102 [.int .i64 p] = some (.tup [.int .i64 (sa p), .int .i64 (sb p)]) := by
  have : p = 0 ∨ p = 1 ∨ p = 2 ∨ p = 3 ∨ p = 4 ∨ p = 5 := by omega
  rcases this with rfl | rfl | rfl | rfl | rfl | rfl <;> exact R_of (n := 60) (by kernel_rfl)
def lieS (r : Rl) (s : So) : Bool := lie r s.t s.p && (decide (s.o = sa s.p) || decide (s.o = sb s.p))
theorem liesT_ok {r : Rl} (g : Good r) (s : So) : R tc 58 [vR r, vSo s] = some (.bool (lieS r s)) := by
  obtain ⟨w0, w1, h0, h1, ls, ld, _⟩ := g
  have hm : 16 ≤ r.w * r.h ∧ r.w * r.h ≤ 1024 := Good.mul ⟨w0, w1, h0, h1, ls, ld, by assumption⟩
  have he := fun h => endsT_ok (p := s.p) h
  obtain ⟨w, h, n1, sx, n2, d⟩ := r
  obtain ⟨t, p, o⟩ := s
  dsimp only at *
  refine R_of_G (F := pf58) (tc_nat _ rfl) rfl rfl ?_
  unfold lieS
  by_cases a1 : t < 0
  case pos =>
    have b1 : ¬ 0 ≤ t := by omega
    simp (disch := first | omega | with_unfolding_all rfl) [pf58, env0_eq, a1, b1, lie]
  by_cases a2 : (sx.length : Int) ≤ t
  case pos =>
    have b1 : ¬ t < w * h := by omega
    simp (disch := first | omega | with_unfolding_all rfl) [pf58, env0_eq, a1, a2, b1, lie]
  by_cases a3 : p < 0
  case pos =>
    have b1 : ¬ 0 ≤ p := by omega
    simp (disch := first | omega | with_unfolding_all rfl) [pf58, env0_eq, a1, a2, a3, b1, lie]
  by_cases a4 : 5 < p
  case pos =>
    have b1 : ¬ p < 6 := by omega
    simp (disch := first | omega | with_unfolding_all rfl) [pf58, env0_eq, a1, a2, a3, a4, b1, lie]
  have he := he ⟨by omega, by omega⟩
  obtain ⟨P, rfl⟩ : ∃ P : Nat, p = P := ⟨p.toNat, by omega⟩
  obtain ⟨T, rfl⟩ : ∃ T : Nat, t = T := ⟨t.toNat, by omega⟩
  have hT : T < sx.length := by omega
  have hmin : min P IntKind.i64.bits = P := Nat.min_eq_left (by show P ≤ 64; omega)
  have e1 : sx[T] = ss ⟨w, h, n1, sx, n2, d⟩ T := by simp [ss, hT]
  simp (disch := first | omega | with_unfolding_all rfl) [pf58, env0_eq, a1, a2, a3, a4, he, hmin, e1, and_one]
  have b1 : (T : Int) < w * h := by omega
  have b2 : (P : Int) < 6 := by omega
  refine G_brd (fun b => ?_) (fun b => ?_)
  · have hq : lie ⟨w, h, n1, sx, n2, d⟩ T P = false := by
      simp [lie, bitq, b1, b2, b]
    simp (disch := first | omega | with_unfolding_all rfl) [he, hq]
  · have hq : lie ⟨w, h, n1, sx, n2, d⟩ T P = true := by
      simp [lie, bitq, b1, b2, b]
      try omega
    by_cases c : o = sa P
    · simp (disch := first | omega | with_unfolding_all rfl) [he, hq, c]
    · simp (disch := first | omega | with_unfolding_all rfl) [he, hq, c]
theorem endsR_ok {p : Int} (h : 0 ≤ p ∧ p < 6) : R tc 139 [.int .i64 p] = some (.tup [.int .i64 (if p = 1 then 3 else sa p), .int .i64 (if p = 1 then 1 else sb p)]) := by
  have : p = 0 ∨ p = 1 ∨ p = 2 ∨ p = 3 ∨ p = 4 ∨ p = 5 := by omega
  rcases this with rfl | rfl | rfl | rfl | rfl | rfl <;> exact R_of (n := 60) (by kernel_rfl)
theorem sab_rg {p : Int} (h : 0 ≤ p ∧ p < 6) : 0 ≤ sa p ∧ sa p < 4 ∧ 0 ≤ sb p ∧ sb p < 4 ∧ sa p ≠ sb p := by
  have : p = 0 ∨ p = 1 ∨ p = 2 ∨ p = 3 ∨ p = 4 ∨ p = 5 := by omega
  rcases this with rfl | rfl | rfl | rfl | rfl | rfl <;> decide
theorem otherR_ok {p : Int} (h : 0 ≤ p ∧ p < 6) (s : Int) : R tc 92 [.int .i64 p, .int .i64 s] = some (.int .i64 (if s = sa p then sb p else if s = sb p then sa p else -1)) := by
  have he := endsR_ok h
  have hab := sab_rg h
  refine R_of_G (F := pf92) (tc_nat _ rfl) rfl rfl ?_
  by_cases c : p = 1
  · subst c
    have e1 : sa 1 = 1 := rfl
    have e2 : sb 1 = 3 := rfl
    rw [if_pos rfl, if_pos rfl] at he
    rw [e1, e2]
    by_cases d : s = 3
    · have d' : ¬ s = 1 := by omega
      simp (disch := first | omega | with_unfolding_all rfl) [pf92, env0_eq, he, d]
    · by_cases d' : s = 1
      · simp (disch := first | omega | with_unfolding_all rfl) [pf92, env0_eq, he, d']
      · simp (disch := first | omega | with_unfolding_all rfl) [pf92, env0_eq, he, d, d']
  · rw [if_neg c, if_neg c] at he
    by_cases d : s = sa p
    · simp (disch := first | omega | with_unfolding_all rfl) [pf92, env0_eq, he, d]
    · by_cases d' : s = sb p
      · have : ¬ sb p = sa p := by omega
        simp (disch := first | omega | with_unfolding_all rfl) [pf92, env0_eq, he, d', this]
      · simp (disch := first | omega | with_unfolding_all rfl) [pf92, env0_eq, he, d, d']
theorem liesR_ok {r : Rl} (g : Good r) (s : So) : R tc 66 [vR r, vSo s] = some (.bool (lieS r s)) := by
  obtain ⟨w0, w1, h0, h1, ls, ld, hrg⟩ := g
  have hm : 16 ≤ r.w * r.h ∧ r.w * r.h ≤ 1024 := Good.mul ⟨w0, w1, h0, h1, ls, ld, by assumption⟩
  have he := fun h => otherR_ok (p := s.p) h s.o
  have hab := fun h => sab_rg (p := s.p) h
  have hwi := within_ok s.p 0 5
  obtain ⟨w, h, n1, sx, n2, d⟩ := r
  obtain ⟨t, p, o⟩ := s
  dsimp only at *
  refine R_of_G (F := pf66) (tc_nat _ rfl) rfl rfl ?_
  unfold lieS
  by_cases a1 : 0 ≤ t
  case neg => simp (disch := first | omega | with_unfolding_all rfl) [pf66, env0_eq, a1, lie]
  by_cases a2 : t < (sx.length : Int)
  case neg =>
    have b1 : ¬ t < w * h := by omega
    simp (disch := first | omega | with_unfolding_all rfl) [pf66, env0_eq, a1, a2, b1, lie]
  have b1 : t < w * h := by omega
  by_cases a3 : 0 ≤ p ∧ p ≤ 5
  case neg =>
    have b2 : ¬ (0 ≤ p ∧ p < 6) := by omega
    rw [decide_eq_false a3] at hwi
    have hq : lie ⟨w, h, n1, sx, n2, d⟩ t p = false := by
      rw [lie]
      by_cases c : 0 ≤ p
      · have : ¬ p < 6 := by omega
        simp [this]
      · simp [c]
    simp (disch := first | omega | with_unfolding_all rfl) [pf66, env0_eq, a1, a2, hwi, hq]
  rw [decide_eq_true a3] at hwi
  have he := he ⟨by omega, by omega⟩
  have hab := hab ⟨by omega, by omega⟩
  obtain ⟨P, rfl⟩ : ∃ P : Nat, p = P := ⟨p.toNat, by omega⟩
  obtain ⟨T, rfl⟩ : ∃ T : Nat, t = T := ⟨t.toNat, by omega⟩
  have hT : T < sx.length := by omega
  have hmin : min P IntKind.i64.bits = P := Nat.min_eq_left (by show P ≤ 64; omega)
  have hwr : IntKind.u64.wrap (P : Int) = P := by
    have : P = 0 ∨ P = 1 ∨ P = 2 ∨ P = 3 ∨ P = 4 ∨ P = 5 := by omega
    rcases this with rfl | rfl | rfl | rfl | rfl | rfl <;> rfl
  have e1 : sx[T] = ss ⟨w, h, n1, sx, n2, d⟩ T := by simp [ss, hT]
  have b2 : (P : Int) < 6 := by omega
  have hP : ¬ (P : Int) < 0 := by omega
  simp (disch := first | omega | with_unfolding_all rfl) [pf66, env0_eq, a1, a2, a3, he, hwi, hmin, e1, hwr, hP]
  have htm : ((ss ⟨w, h, n1, sx, n2, d⟩ T).fdiv (2 ^ P)).tmod 2 = (ss ⟨w, h, n1, sx, n2, d⟩ T).fdiv (2 ^ P) % 2 :=
    Int.tmod_eq_emod_of_nonneg (Int.fdiv_nonneg (hrg T hT).1 (Int.le_of_lt (Int.pow_pos (by omega))))
  by_cases b : (ss ⟨w, h, n1, sx, n2, d⟩ T).fdiv (2 ^ P) % 2 = 1
  · have hq : lie ⟨w, h, n1, sx, n2, d⟩ T P = true := by
      simp [lie, bitq, b1, b2, b]
    simp (disch := first | omega | with_unfolding_all rfl) [b, hq, he, htm]
    by_cases c : o = sa P
    · rw [if_pos c]
      have : 0 ≤ sb (P : Int) := by omega
      simp [c, this]
    · rw [if_neg c]
      by_cases c' : o = sb P
      · rw [if_pos c']
        have : 0 ≤ sa (P : Int) := by omega
        simp [c', this]
      · simp [c, c']
  · have hq : lie ⟨w, h, n1, sx, n2, d⟩ T P = false := by
      simp [lie, bitq, b1, b2, b]
    simp (disch := first | omega | with_unfolding_all rfl) [b, hq, he, htm]
end Go.Proofs.YtiaeckidlmoohaaGreat
end
section
set_option linter.unusedVariables false
set_option linter.unusedSimpArgs false
set_option maxHeartbeats 4000000
set_option maxRecDepth 20000
namespace Go.Proofs.YtiaeckidlmoohaaGreat
open Go.Proofs.YtiaeckidlmoohaaGreat.PM
theorem compareT_ok (a b : So) : R tc 56 [vSo a, vSo b] = some (.int .i64 (cmS a b)) := by
  refine R_of_G (F := pf56) (tc_nat _ rfl) rfl rfl ?_
  simp (disch := omega) [pf56, env0_eq, cmpI_ok, or3_ok, cmS]
def ltO (a b : So) : Bool := decide (cmS a b < 0)
theorem lessR_ok (a b : So) : R tc 114 [vSo a, vSo b] = some (.bool (ltO a b)) := by
  refine R_of_G (F := pf114) (tc_nat _ rfl) rfl rfl ?_
  have hc : ∀ x y : Int, (x = y → cmp x y = 0) ∧ (x < y → cmp x y = -1) ∧ (y < x → cmp x y = 1) := fun x y => by
    unfold cmp
    refine ⟨fun h => ?_, fun h => ?_, fun h => ?_⟩ <;> split <;> (try split) <;> omega
  unfold ltO cmS
  by_cases c1 : a.t = b.t
  · rw [if_pos ((hc _ _).1 c1)]
    by_cases c2 : a.p = b.p
    · rw [if_pos ((hc _ _).1 c2)]
      have : decide (cmp a.o b.o < 0) = decide (a.o < b.o) := by
        unfold cmp
        by_cases h : a.o < b.o
        · simp [h]
        · by_cases h' : b.o < a.o <;> simp [h, h']
      simp (disch := omega) [pf114, env0_eq, c1, c2, this]
    · have h0 : cmp a.p b.p ≠ 0 := by unfold cmp; split; omega; split <;> omega
      rw [if_neg h0]
      have : decide (cmp a.p b.p < 0) = decide (a.p < b.p) := by
        unfold cmp
        by_cases h : a.p < b.p
        · simp [h]
        · by_cases h' : b.p < a.p <;> simp [h, h']
      simp (disch := omega) [pf114, env0_eq, c1, c2, this]
  · have h0 : cmp a.t b.t ≠ 0 := by unfold cmp; split; omega; split <;> omega
    rw [if_neg h0]
    have : decide (cmp a.t b.t < 0) = decide (a.t < b.t) := by
      unfold cmp
      by_cases h : a.t < b.t
      · simp [h]
      · by_cases h' : b.t < a.t <;> simp [h, h']
    simp (disch := omega) [pf114, env0_eq, c1, this]
end Go.Proofs.YtiaeckidlmoohaaGreat
end
